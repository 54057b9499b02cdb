/-
  The types that the program's code names, as the loaded program has them. Written by a program.
-/
import Derived.Test.YtgjengcmopgngabV
import Derived.Test.YtgjengcmopgngabProg
import Derived.KernelRfl
namespace Go.Proofs.Ytgjengcmopgngab
open Go V

/-- int -/
def ty3 : TI := ⟨Go.TypeDesc.int (Go.IntKind.i64), 1, 8, (.int .i64 0)⟩
/-- bool -/
def ty4 : TI := ⟨Go.TypeDesc.bool, 1, 1, (.bool false)⟩
/-- uint8 -/
def ty5 : TI := ⟨Go.TypeDesc.int (Go.IntKind.u8), 1, 1, (.int .u8 0)⟩
/-- []uint8 -/
def ty22 : TI := ⟨Go.TypeDesc.slice 5, 1, 24, (.slice none 0 0)⟩
/-- uint32 -/
def ty23 : TI := ⟨Go.TypeDesc.int (Go.IntKind.u32), 1, 4, (.int .u32 0)⟩
/-- *stuff.Deframer -/
def ty25 : TI := ⟨Go.TypeDesc.pointer 40, 1, 8, (.pointer none)⟩
/-- api.Errno -/
def ty26 : TI := ⟨Go.TypeDesc.int (Go.IntKind.i64), 1, 8, (.int .i64 0)⟩
/-- [][]uint8 -/
def ty29 : TI := ⟨Go.TypeDesc.slice 22, 1, 24, (.slice none 0 0)⟩
/-- stuff.Deframer -/
def ty40 : TI := ⟨Go.TypeDesc.struct   #[{ name := "accm",       type := 23,       offset := 0,       embedded := false,       tag := "",       pkgPath := "fairlead/stuff",       byteOffset := 0 },     { name := "most",       type := 3,       offset := 1,       embedded := false,       tag := "",       pkgPath := "fairlead/stuff",       byteOffset := 8 },     { name := "b",       type := 22,       offset := 2,       embedded := false,       tag := "",       pkgPath := "fairlead/stuff",       byteOffset := 16 },     { name := "long",       type := 4,       offset := 3,       embedded := false,       tag := "",       pkgPath := "fairlead/stuff",       byteOffset := 40 },     { name := "escaped",       type := 4,       offset := 4,       embedded := false,       tag := "",       pkgPath := "fairlead/stuff",       byteOffset := 41 },     { name := "dropped",       type := 3,       offset := 5,       embedded := false,       tag := "",       pkgPath := "fairlead/stuff",       byteOffset := 48 }], 6, 56, (.agg #[(.int .u32 0), (.int .i64 0), (.slice none 0 0), (.bool false), (.bool false), (.int .i64 0)])⟩
/-- *md4.state -/
def ty45 : TI := ⟨Go.TypeDesc.pointer 47, 1, 8, (.pointer none)⟩
/-- md4.state -/
def ty47 : TI := ⟨Go.TypeDesc.array 4 23, 4, 16, (.agg (Array.replicate 4 (.int .u32 0)))⟩
/-- []uint32 -/
def ty49 : TI := ⟨Go.TypeDesc.slice 23, 1, 24, (.slice none 0 0)⟩
/-- []int -/
def ty51 : TI := ⟨Go.TypeDesc.slice 3, 1, 24, (.slice none 0 0)⟩
/-- uint -/
def ty52 : TI := ⟨Go.TypeDesc.int (Go.IntKind.u64), 1, 8, (.int .u64 0)⟩
/-- uint64 -/
def ty55 : TI := ⟨Go.TypeDesc.int (Go.IntKind.u64), 1, 8, (.int .u64 0)⟩
/-- [16]uint32 -/
def ty56 : TI := ⟨Go.TypeDesc.array 16 23, 16, 64, (.agg (Array.replicate 16 (.int .u32 0)))⟩
/-- func(uint32, uint32, uint32) uint32 -/
def ty57 : TI := ⟨Go.TypeDesc.func #[23, 23, 23] #[23] false, 1, 8, .nilFunc⟩
/-- [4]int -/
def ty62 : TI := ⟨Go.TypeDesc.array 4 3, 4, 32, (.agg (Array.replicate 4 (.int .i64 0)))⟩
/-- [3][4]int -/
def ty63 : TI := ⟨Go.TypeDesc.array 3 62, 12, 96, (.agg (Array.replicate 12 (.int .i64 0)))⟩

def tt : TT := [(3, ty3), (4, ty4), (5, ty5), (22, ty22), (23, ty23), (25, ty25), (26, ty26), (29, ty29), (40, ty40), (45, ty45), (47, ty47), (49, ty49), (51, ty51), (52, ty52), (55, ty55), (56, ty56), (57, ty57), (62, ty62), (63, ty63)]

theorem ty3u : Try.prog.underlying 3 = some ty3.und := by kernel_rfl
theorem ty3i : (Try.prog.info? 3).map (fun x => (x.size, x.bytes, x.zero)) = some (ty3.size, ty3.bytes, some ty3.zero) := by kernel_rfl
theorem ty4u : Try.prog.underlying 4 = some ty4.und := by kernel_rfl
theorem ty4i : (Try.prog.info? 4).map (fun x => (x.size, x.bytes, x.zero)) = some (ty4.size, ty4.bytes, some ty4.zero) := by kernel_rfl
theorem ty5u : Try.prog.underlying 5 = some ty5.und := by kernel_rfl
theorem ty5i : (Try.prog.info? 5).map (fun x => (x.size, x.bytes, x.zero)) = some (ty5.size, ty5.bytes, some ty5.zero) := by kernel_rfl
theorem ty22u : Try.prog.underlying 22 = some ty22.und := by kernel_rfl
theorem ty22i : (Try.prog.info? 22).map (fun x => (x.size, x.bytes, x.zero)) = some (ty22.size, ty22.bytes, some ty22.zero) := by kernel_rfl
theorem ty23u : Try.prog.underlying 23 = some ty23.und := by kernel_rfl
theorem ty23i : (Try.prog.info? 23).map (fun x => (x.size, x.bytes, x.zero)) = some (ty23.size, ty23.bytes, some ty23.zero) := by kernel_rfl
theorem ty25u : Try.prog.underlying 25 = some ty25.und := by kernel_rfl
theorem ty25i : (Try.prog.info? 25).map (fun x => (x.size, x.bytes, x.zero)) = some (ty25.size, ty25.bytes, some ty25.zero) := by kernel_rfl
theorem ty26u : Try.prog.underlying 26 = some ty26.und := by kernel_rfl
theorem ty26i : (Try.prog.info? 26).map (fun x => (x.size, x.bytes, x.zero)) = some (ty26.size, ty26.bytes, some ty26.zero) := by kernel_rfl
theorem ty29u : Try.prog.underlying 29 = some ty29.und := by kernel_rfl
theorem ty29i : (Try.prog.info? 29).map (fun x => (x.size, x.bytes, x.zero)) = some (ty29.size, ty29.bytes, some ty29.zero) := by kernel_rfl
theorem ty40u : Try.prog.underlying 40 = some ty40.und := by kernel_rfl
theorem ty40i : (Try.prog.info? 40).map (fun x => (x.size, x.bytes, x.zero)) = some (ty40.size, ty40.bytes, some ty40.zero) := by kernel_rfl
theorem ty45u : Try.prog.underlying 45 = some ty45.und := by kernel_rfl
theorem ty45i : (Try.prog.info? 45).map (fun x => (x.size, x.bytes, x.zero)) = some (ty45.size, ty45.bytes, some ty45.zero) := by kernel_rfl
theorem ty47u : Try.prog.underlying 47 = some ty47.und := by kernel_rfl
theorem ty47i : (Try.prog.info? 47).map (fun x => (x.size, x.bytes, x.zero)) = some (ty47.size, ty47.bytes, some ty47.zero) := by kernel_rfl
theorem ty49u : Try.prog.underlying 49 = some ty49.und := by kernel_rfl
theorem ty49i : (Try.prog.info? 49).map (fun x => (x.size, x.bytes, x.zero)) = some (ty49.size, ty49.bytes, some ty49.zero) := by kernel_rfl
theorem ty51u : Try.prog.underlying 51 = some ty51.und := by kernel_rfl
theorem ty51i : (Try.prog.info? 51).map (fun x => (x.size, x.bytes, x.zero)) = some (ty51.size, ty51.bytes, some ty51.zero) := by kernel_rfl
theorem ty52u : Try.prog.underlying 52 = some ty52.und := by kernel_rfl
theorem ty52i : (Try.prog.info? 52).map (fun x => (x.size, x.bytes, x.zero)) = some (ty52.size, ty52.bytes, some ty52.zero) := by kernel_rfl
theorem ty55u : Try.prog.underlying 55 = some ty55.und := by kernel_rfl
theorem ty55i : (Try.prog.info? 55).map (fun x => (x.size, x.bytes, x.zero)) = some (ty55.size, ty55.bytes, some ty55.zero) := by kernel_rfl
theorem ty56u : Try.prog.underlying 56 = some ty56.und := by kernel_rfl
theorem ty56i : (Try.prog.info? 56).map (fun x => (x.size, x.bytes, x.zero)) = some (ty56.size, ty56.bytes, some ty56.zero) := by kernel_rfl
theorem ty57u : Try.prog.underlying 57 = some ty57.und := by kernel_rfl
theorem ty57i : (Try.prog.info? 57).map (fun x => (x.size, x.bytes, x.zero)) = some (ty57.size, ty57.bytes, some ty57.zero) := by kernel_rfl
theorem ty62u : Try.prog.underlying 62 = some ty62.und := by kernel_rfl
theorem ty62i : (Try.prog.info? 62).map (fun x => (x.size, x.bytes, x.zero)) = some (ty62.size, ty62.bytes, some ty62.zero) := by kernel_rfl
theorem ty63u : Try.prog.underlying 63 = some ty63.und := by kernel_rfl
theorem ty63i : (Try.prog.info? 63).map (fun x => (x.size, x.bytes, x.zero)) = some (ty63.size, ty63.bytes, some ty63.zero) := by kernel_rfl

theorem tt_ok : TOk Try.prog tt := (.cons ty3u ty3i (.cons ty4u ty4i (.cons ty5u ty5i (.cons ty22u ty22i (.cons ty23u ty23i (.cons ty25u ty25i (.cons ty26u ty26i (.cons ty29u ty29i (.cons ty40u ty40i (.cons ty45u ty45i (.cons ty47u ty47i (.cons ty49u ty49i (.cons ty51u ty51i (.cons ty52u ty52i (.cons ty55u ty55i (.cons ty56u ty56i (.cons ty57u ty57i (.cons ty62u ty62i (.cons ty63u ty63i (.nil _))))))))))))))))))))

end Go.Proofs.Ytgjengcmopgngab
