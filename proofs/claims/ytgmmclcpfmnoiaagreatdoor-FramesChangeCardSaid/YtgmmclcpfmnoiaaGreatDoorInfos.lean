/-
  What the types of elements are: zero value, cells, bytes.
-/
import Derived.Test.YtgmmclcpfmnoiaaGreatDoorIdx
namespace Go.Proofs.YtgmmclcpfmnoiaaGreatDoor
open Go.RowKit

abbrev zStr : Value := .string ⟨#[]⟩
abbrev zInt : Value := .int .i64 0
abbrev zNil : Value := .slice none 0 0
theorem info_str : (Tryz.prog.info? 9).map (fun i => (i.zero, i.size, i.bytes)) = some (some zStr, 1, 16) := by kernel_rfl
theorem info_byte : (Tryz.prog.info? 5).map (fun i => (i.zero, i.size, i.bytes)) = some (some (.int .u8 0), 1, 1) := by kernel_rfl
theorem info_ty : (Tryz.prog.info? 26).map (fun i => (i.zero, i.size, i.bytes)) = some (some (.agg #[zInt, zStr]), 2, 24) := by kernel_rfl
theorem info_fd : (Tryz.prog.info? 41).map (fun i => (i.zero, i.size, i.bytes)) = some (some (.agg #[zInt, zStr, zInt, zStr]), 4, 48) := by kernel_rfl
theorem info_hd : (Tryz.prog.info? 132).map (fun i => (i.zero, i.size, i.bytes)) = some (some (.agg #[zInt, zInt, zInt, zStr]), 4, 40) := by kernel_rfl
theorem info_mt : (Tryz.prog.info? 32).map (fun i => (i.zero, i.size, i.bytes)) = some (some (.agg #[zInt, zStr, zNil, .bool false, zInt, zStr, zInt, zInt, zNil, zNil]), 10, 144) := by kernel_rfl
theorem info_cl : (Tryz.prog.info? 37).map (fun i => (i.zero, i.size, i.bytes)) = some (some (.agg #[zInt, zStr, zStr, zNil, zNil, zNil]), 6, 112) := by kernel_rfl
theorem info_en : (Tryz.prog.info? 122).map (fun i => (i.zero, i.size, i.bytes)) = some (some (.agg #[zInt, zStr, zInt, zInt, zInt, zInt]), 6, 56) := by kernel_rfl

end Go.Proofs.YtgmmclcpfmnoiaaGreatDoor
