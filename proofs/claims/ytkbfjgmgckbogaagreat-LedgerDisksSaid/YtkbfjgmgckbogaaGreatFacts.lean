/-
  Closed facts on this program's types: zero value, cells, bytes. Written by a program (wip/tools/facts.py).
-/
import Derived.Test.YtkbfjgmgckbogaaGreatChecked
import Derived.KernelRfl
namespace Go.Proofs.YtkbfjgmgckbogaaGreat
theorem Tryz.info2 : (Tryz.prog.info? 2).map (fun i => (i.zero, i.size, i.bytes)) = some (some (.int .i64 0), 1, 8) := by kernel_rfl
theorem Tryz.size2 : (Tryz.prog.info? 2).map (fun i => i.size) = some 1 := by kernel_rfl
theorem Tryz.info3 : (Tryz.prog.info? 3).map (fun i => (i.zero, i.size, i.bytes)) = some (some (.int .i64 0), 1, 8) := by kernel_rfl
theorem Tryz.size3 : (Tryz.prog.info? 3).map (fun i => i.size) = some 1 := by kernel_rfl
theorem Tryz.info4 : (Tryz.prog.info? 4).map (fun i => (i.zero, i.size, i.bytes)) = some (some (.bool false), 1, 1) := by kernel_rfl
theorem Tryz.size4 : (Tryz.prog.info? 4).map (fun i => i.size) = some 1 := by kernel_rfl
theorem Tryz.info5 : (Tryz.prog.info? 5).map (fun i => (i.zero, i.size, i.bytes)) = some (some (.int .u8 0), 1, 1) := by kernel_rfl
theorem Tryz.size5 : (Tryz.prog.info? 5).map (fun i => i.size) = some 1 := by kernel_rfl
theorem Tryz.info9 : (Tryz.prog.info? 9).map (fun i => (i.zero, i.size, i.bytes)) = some (some (.string ByteArray.empty), 1, 16) := by kernel_rfl
theorem Tryz.size9 : (Tryz.prog.info? 9).map (fun i => i.size) = some 1 := by kernel_rfl
theorem Tryz.info12 : (Tryz.prog.info? 12).map (fun i => (i.zero, i.size, i.bytes)) = some (some (.int .u64 0), 1, 8) := by kernel_rfl
theorem Tryz.size12 : (Tryz.prog.info? 12).map (fun i => i.size) = some 1 := by kernel_rfl
theorem Tryz.info21 : (Tryz.prog.info? 21).map (fun i => (i.zero, i.size, i.bytes)) = some (some (.int .i32 0), 1, 4) := by kernel_rfl
theorem Tryz.size21 : (Tryz.prog.info? 21).map (fun i => i.size) = some 1 := by kernel_rfl
theorem Tryz.info22 : (Tryz.prog.info? 22).map (fun i => (i.zero, i.size, i.bytes)) = some (some (.slice none 0 0), 1, 24) := by kernel_rfl
theorem Tryz.size22 : (Tryz.prog.info? 22).map (fun i => i.size) = some 1 := by kernel_rfl
theorem Tryz.info23 : (Tryz.prog.info? 23).map (fun i => (i.zero, i.size, i.bytes)) = some (some (.pointer none), 1, 8) := by kernel_rfl
theorem Tryz.size23 : (Tryz.prog.info? 23).map (fun i => i.size) = some 1 := by kernel_rfl
theorem Tryz.info24 : (Tryz.prog.info? 24).map (fun i => (i.zero, i.size, i.bytes)) = some (some (.int .i64 0), 1, 8) := by kernel_rfl
theorem Tryz.size24 : (Tryz.prog.info? 24).map (fun i => i.size) = some 1 := by kernel_rfl
theorem Tryz.info27 : (Tryz.prog.info? 27).map (fun i => (i.zero, i.size, i.bytes)) = some (some (.pointer none), 1, 8) := by kernel_rfl
theorem Tryz.size27 : (Tryz.prog.info? 27).map (fun i => i.size) = some 1 := by kernel_rfl
theorem Tryz.info32 : (Tryz.prog.info? 32).map (fun i => (i.zero, i.size, i.bytes)) = some (some (.pointer none), 1, 8) := by kernel_rfl
theorem Tryz.size32 : (Tryz.prog.info? 32).map (fun i => i.size) = some 1 := by kernel_rfl
theorem Tryz.info33 : (Tryz.prog.info? 33).map (fun i => (i.zero, i.size, i.bytes)) = some (some (.pointer none), 1, 8) := by kernel_rfl
theorem Tryz.size33 : (Tryz.prog.info? 33).map (fun i => i.size) = some 1 := by kernel_rfl
theorem Tryz.info38 : (Tryz.prog.info? 38).map (fun i => (i.zero, i.size, i.bytes)) = some (some (.map none), 1, 8) := by kernel_rfl
theorem Tryz.size38 : (Tryz.prog.info? 38).map (fun i => i.size) = some 1 := by kernel_rfl
theorem Tryz.info39 : (Tryz.prog.info? 39).map (fun i => (i.zero, i.size, i.bytes)) = some (some (.agg #[.int .i64 0, .map none, .bool false, .int .i64 0]), 4, 32) := by kernel_rfl
theorem Tryz.size39 : (Tryz.prog.info? 39).map (fun i => i.size) = some 4 := by kernel_rfl
theorem Tryz.info40 : (Tryz.prog.info? 40).map (fun i => (i.zero, i.size, i.bytes)) = some (some (.agg #[.int .i64 0, .map none, .bool false, .int .i64 0]), 4, 32) := by kernel_rfl
theorem Tryz.size40 : (Tryz.prog.info? 40).map (fun i => i.size) = some 4 := by kernel_rfl
theorem Tryz.info41 : (Tryz.prog.info? 41).map (fun i => (i.zero, i.size, i.bytes)) = some (some (.slice none 0 0), 1, 24) := by kernel_rfl
theorem Tryz.size41 : (Tryz.prog.info? 41).map (fun i => i.size) = some 1 := by kernel_rfl
theorem Tryz.info42 : (Tryz.prog.info? 42).map (fun i => (i.zero, i.size, i.bytes)) = some (some (.agg #[.int .i64 0, .slice none 0 0, .int .i64 0]), 3, 40) := by kernel_rfl
theorem Tryz.size42 : (Tryz.prog.info? 42).map (fun i => i.size) = some 3 := by kernel_rfl
theorem Tryz.info43 : (Tryz.prog.info? 43).map (fun i => (i.zero, i.size, i.bytes)) = some (some (.agg #[.int .i64 0, .slice none 0 0, .int .i64 0]), 3, 40) := by kernel_rfl
theorem Tryz.size43 : (Tryz.prog.info? 43).map (fun i => i.size) = some 3 := by kernel_rfl
theorem Tryz.info44 : (Tryz.prog.info? 44).map (fun i => (i.zero, i.size, i.bytes)) = some (some (.slice none 0 0), 1, 24) := by kernel_rfl
theorem Tryz.size44 : (Tryz.prog.info? 44).map (fun i => i.size) = some 1 := by kernel_rfl
theorem Tryz.info47 : (Tryz.prog.info? 47).map (fun i => (i.zero, i.size, i.bytes)) = some (some (.pointer none), 1, 8) := by kernel_rfl
theorem Tryz.size47 : (Tryz.prog.info? 47).map (fun i => i.size) = some 1 := by kernel_rfl
theorem Tryz.info49 : (Tryz.prog.info? 49).map (fun i => (i.zero, i.size, i.bytes)) = some (some (.agg #[.slice none 0 0, .int .i64 0]), 2, 32) := by kernel_rfl
theorem Tryz.size49 : (Tryz.prog.info? 49).map (fun i => i.size) = some 2 := by kernel_rfl
theorem Tryz.info50 : (Tryz.prog.info? 50).map (fun i => (i.zero, i.size, i.bytes)) = some (some (.agg #[.slice none 0 0, .int .i64 0]), 2, 32) := by kernel_rfl
theorem Tryz.size50 : (Tryz.prog.info? 50).map (fun i => i.size) = some 2 := by kernel_rfl
theorem Tryz.info55 : (Tryz.prog.info? 55).map (fun i => (i.zero, i.size, i.bytes)) = some (some (.agg #[.string ByteArray.empty, .slice none 0 0, .int .i64 0]), 3, 48) := by kernel_rfl
theorem Tryz.size55 : (Tryz.prog.info? 55).map (fun i => i.size) = some 3 := by kernel_rfl
theorem Tryz.info56 : (Tryz.prog.info? 56).map (fun i => (i.zero, i.size, i.bytes)) = some (some (.agg #[.string ByteArray.empty, .slice none 0 0, .int .i64 0]), 3, 48) := by kernel_rfl
theorem Tryz.size56 : (Tryz.prog.info? 56).map (fun i => i.size) = some 3 := by kernel_rfl
theorem Tryz.info68 : (Tryz.prog.info? 68).map (fun i => (i.zero, i.size, i.bytes)) = some (some (.slice none 0 0), 1, 24) := by kernel_rfl
theorem Tryz.size68 : (Tryz.prog.info? 68).map (fun i => i.size) = some 1 := by kernel_rfl
theorem Tryz.info70 : (Tryz.prog.info? 70).map (fun i => (i.zero, i.size, i.bytes)) = some (some (.agg #[.pointer none, .string ByteArray.empty, .int .i64 0, .slice none 0 0, .slice none 0 0, .bool false]), 6, 88) := by kernel_rfl
theorem Tryz.size70 : (Tryz.prog.info? 70).map (fun i => i.size) = some 6 := by kernel_rfl
theorem Tryz.info71 : (Tryz.prog.info? 71).map (fun i => (i.zero, i.size, i.bytes)) = some (some (.agg #[.pointer none, .string ByteArray.empty, .int .i64 0, .slice none 0 0, .slice none 0 0, .bool false]), 6, 88) := by kernel_rfl
theorem Tryz.size71 : (Tryz.prog.info? 71).map (fun i => i.size) = some 6 := by kernel_rfl
theorem Tryz.info72 : (Tryz.prog.info? 72).map (fun i => (i.zero, i.size, i.bytes)) = some (some (.slice none 0 0), 1, 24) := by kernel_rfl
theorem Tryz.size72 : (Tryz.prog.info? 72).map (fun i => i.size) = some 1 := by kernel_rfl
theorem Tryz.info73 : (Tryz.prog.info? 73).map (fun i => (i.zero, i.size, i.bytes)) = some (some (.agg #[.pointer none, .string ByteArray.empty, .int .i64 0, .slice none 0 0, .slice none 0 0, .bool false]), 6, 88) := by kernel_rfl
theorem Tryz.size73 : (Tryz.prog.info? 73).map (fun i => i.size) = some 6 := by kernel_rfl
theorem Tryz.info74 : (Tryz.prog.info? 74).map (fun i => (i.zero, i.size, i.bytes)) = some (some (.agg #[.pointer none, .string ByteArray.empty, .int .i64 0, .slice none 0 0, .slice none 0 0, .bool false]), 6, 88) := by kernel_rfl
theorem Tryz.size74 : (Tryz.prog.info? 74).map (fun i => i.size) = some 6 := by kernel_rfl
theorem Tryz.info87 : (Tryz.prog.info? 87).map (fun i => (i.zero, i.size, i.bytes)) = some (some (.agg #[.slice none 0 0]), 1, 24) := by kernel_rfl
theorem Tryz.size87 : (Tryz.prog.info? 87).map (fun i => i.size) = some 1 := by kernel_rfl
theorem Tryz.info88 : (Tryz.prog.info? 88).map (fun i => (i.zero, i.size, i.bytes)) = some (some (.agg #[.slice none 0 0]), 1, 24) := by kernel_rfl
theorem Tryz.size88 : (Tryz.prog.info? 88).map (fun i => i.size) = some 1 := by kernel_rfl
theorem Tryz.info100 : (Tryz.prog.info? 100).map (fun i => (i.zero, i.size, i.bytes)) = some (some (.pointer none), 1, 8) := by kernel_rfl
theorem Tryz.size100 : (Tryz.prog.info? 100).map (fun i => i.size) = some 1 := by kernel_rfl
theorem Tryz.info106 : (Tryz.prog.info? 106).map (fun i => (i.zero, i.size, i.bytes)) = some (some (.pointer none), 1, 8) := by kernel_rfl
theorem Tryz.size106 : (Tryz.prog.info? 106).map (fun i => i.size) = some 1 := by kernel_rfl
theorem Tryz.info107 : (Tryz.prog.info? 107).map (fun i => (i.zero, i.size, i.bytes)) = some (some (.agg #[.pointer none, .int .i64 0]), 2, 16) := by kernel_rfl
theorem Tryz.size107 : (Tryz.prog.info? 107).map (fun i => i.size) = some 2 := by kernel_rfl
theorem Tryz.info108 : (Tryz.prog.info? 108).map (fun i => (i.zero, i.size, i.bytes)) = some (some (.agg #[.pointer none, .int .i64 0]), 2, 16) := by kernel_rfl
theorem Tryz.size108 : (Tryz.prog.info? 108).map (fun i => i.size) = some 2 := by kernel_rfl
theorem Tryz.info112 : (Tryz.prog.info? 112).map (fun i => (i.zero, i.size, i.bytes)) = some (some (.pointer none), 1, 8) := by kernel_rfl
theorem Tryz.size112 : (Tryz.prog.info? 112).map (fun i => i.size) = some 1 := by kernel_rfl
theorem Tryz.info113 : (Tryz.prog.info? 113).map (fun i => (i.zero, i.size, i.bytes)) = some (some (.agg #[.slice none 0 0, .bool false]), 2, 32) := by kernel_rfl
theorem Tryz.size113 : (Tryz.prog.info? 113).map (fun i => i.size) = some 2 := by kernel_rfl
theorem Tryz.info114 : (Tryz.prog.info? 114).map (fun i => (i.zero, i.size, i.bytes)) = some (some (.agg #[.slice none 0 0, .bool false]), 2, 32) := by kernel_rfl
theorem Tryz.size114 : (Tryz.prog.info? 114).map (fun i => i.size) = some 2 := by kernel_rfl
theorem Tryz.info117 : (Tryz.prog.info? 117).map (fun i => (i.zero, i.size, i.bytes)) = some (some (.nilFunc), 1, 8) := by kernel_rfl
theorem Tryz.size117 : (Tryz.prog.info? 117).map (fun i => i.size) = some 1 := by kernel_rfl
theorem Tryz.info119 : (Tryz.prog.info? 119).map (fun i => (i.zero, i.size, i.bytes)) = some (some (.pointer none), 1, 8) := by kernel_rfl
theorem Tryz.size119 : (Tryz.prog.info? 119).map (fun i => i.size) = some 1 := by kernel_rfl
theorem Tryz.info120 : (Tryz.prog.info? 120).map (fun i => (i.zero, i.size, i.bytes)) = some (some (.slice none 0 0), 1, 24) := by kernel_rfl
theorem Tryz.size120 : (Tryz.prog.info? 120).map (fun i => i.size) = some 1 := by kernel_rfl
theorem Tryz.info121 : (Tryz.prog.info? 121).map (fun i => (i.zero, i.size, i.bytes)) = some (some (.int .u64 0), 1, 8) := by kernel_rfl
theorem Tryz.size121 : (Tryz.prog.info? 121).map (fun i => i.size) = some 1 := by kernel_rfl
theorem Tryz.info122 : (Tryz.prog.info? 122).map (fun i => (i.zero, i.size, i.bytes)) = some (some (.int .u64 0), 1, 8) := by kernel_rfl
theorem Tryz.size122 : (Tryz.prog.info? 122).map (fun i => i.size) = some 1 := by kernel_rfl
theorem Tryz.info125 : (Tryz.prog.info? 125).map (fun i => (i.zero, i.size, i.bytes)) = some (some (.int .u32 0), 1, 4) := by kernel_rfl
theorem Tryz.size125 : (Tryz.prog.info? 125).map (fun i => i.size) = some 1 := by kernel_rfl
theorem Tryz.info131 : (Tryz.prog.info? 131).map (fun i => (i.zero, i.size, i.bytes)) = some (some (.agg #[.slice none 0 0, .bool false]), 2, 32) := by kernel_rfl
theorem Tryz.size131 : (Tryz.prog.info? 131).map (fun i => i.size) = some 2 := by kernel_rfl
theorem Tryz.info132 : (Tryz.prog.info? 132).map (fun i => (i.zero, i.size, i.bytes)) = some (some (.agg #[.slice none 0 0, .bool false]), 2, 32) := by kernel_rfl
theorem Tryz.size132 : (Tryz.prog.info? 132).map (fun i => i.size) = some 2 := by kernel_rfl
theorem Tryz.info146 : (Tryz.prog.info? 146).map (fun i => (i.zero, i.size, i.bytes)) = some (some (.int .i64 0), 1, 8) := by kernel_rfl
theorem Tryz.size146 : (Tryz.prog.info? 146).map (fun i => i.size) = some 1 := by kernel_rfl
theorem Tryz.info155 : (Tryz.prog.info? 155).map (fun i => (i.zero, i.size, i.bytes)) = some (some (.int .u64 0), 1, 8) := by kernel_rfl
theorem Tryz.size155 : (Tryz.prog.info? 155).map (fun i => i.size) = some 1 := by kernel_rfl
theorem Tryz.info159 : (Tryz.prog.info? 159).map (fun i => (i.zero, i.size, i.bytes)) = some (some (.pointer none), 1, 8) := by kernel_rfl
theorem Tryz.size159 : (Tryz.prog.info? 159).map (fun i => i.size) = some 1 := by kernel_rfl
theorem Tryz.info161 : (Tryz.prog.info? 161).map (fun i => (i.zero, i.size, i.bytes)) = some (some (.pointer none), 1, 8) := by kernel_rfl
theorem Tryz.size161 : (Tryz.prog.info? 161).map (fun i => i.size) = some 1 := by kernel_rfl
theorem Tryz.info171 : (Tryz.prog.info? 171).map (fun i => (i.zero, i.size, i.bytes)) = some (some (.pointer none), 1, 8) := by kernel_rfl
theorem Tryz.size171 : (Tryz.prog.info? 171).map (fun i => i.size) = some 1 := by kernel_rfl
end Go.Proofs.YtkbfjgmgckbogaaGreat
