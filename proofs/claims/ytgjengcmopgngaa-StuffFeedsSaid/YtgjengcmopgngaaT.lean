/-
  The types that the program's code names, as the loaded program has them. Written by a program.
-/
import Derived.Test.YtgjengcmopgngaaV
import Derived.Test.YtgjengcmopgngaaProg
import Derived.KernelRfl
namespace Go.Proofs.Ytgjengcmopgngaa
open Go V

/-- int -/
def ty3 : TI := ⟨Go.TypeDesc.int (Go.IntKind.i64), 1, 8, (.int .i64 0)⟩
/-- bool -/
def ty4 : TI := ⟨Go.TypeDesc.bool, 1, 1, (.bool false)⟩
/-- uint8 -/
def ty5 : TI := ⟨Go.TypeDesc.int (Go.IntKind.u8), 1, 1, (.int .u8 0)⟩
/-- []uint8 -/
def ty22 : TI := ⟨Go.TypeDesc.slice 5, 1, 24, (.slice none 0 0)⟩
/-- uint32 -/
def ty23 : TI := ⟨Go.TypeDesc.int (Go.IntKind.u32), 1, 4, (.int .u32 0)⟩
/-- uint -/
def ty25 : TI := ⟨Go.TypeDesc.int (Go.IntKind.u64), 1, 8, (.int .u64 0)⟩
/-- *stuff.Deframer -/
def ty28 : TI := ⟨Go.TypeDesc.pointer 49, 1, 8, (.pointer none)⟩
/-- api.Errno -/
def ty29 : TI := ⟨Go.TypeDesc.int (Go.IntKind.i64), 1, 8, (.int .i64 0)⟩
/-- [][]uint8 -/
def ty32 : TI := ⟨Go.TypeDesc.slice 22, 1, 24, (.slice none 0 0)⟩
/-- *fairleadref1.Deframer -/
def ty42 : TI := ⟨Go.TypeDesc.pointer 44, 1, 8, (.pointer none)⟩
/-- fairleadref1.Deframer -/
def ty44 : TI := ⟨Go.TypeDesc.struct   #[{ name := "Accm", type := 23, offset := 0, embedded := false, tag := "", pkgPath := "", byteOffset := 0 },     { name := "Most", type := 3, offset := 1, embedded := false, tag := "", pkgPath := "", byteOffset := 8 },     { name := "B", type := 22, offset := 2, embedded := false, tag := "", pkgPath := "", byteOffset := 16 },     { name := "Escape", type := 4, offset := 3, embedded := false, tag := "", pkgPath := "", byteOffset := 40 },     { name := "Dropped", type := 3, offset := 4, embedded := false, tag := "", pkgPath := "", byteOffset := 48 }], 5, 56, (.agg #[(.int .u32 0), (.int .i64 0), (.slice none 0 0), (.bool false), (.int .i64 0)])⟩
/-- stuff.Deframer -/
def ty49 : TI := ⟨Go.TypeDesc.struct   #[{ name := "accm",       type := 23,       offset := 0,       embedded := false,       tag := "",       pkgPath := "fairlead/stuff",       byteOffset := 0 },     { name := "most",       type := 3,       offset := 1,       embedded := false,       tag := "",       pkgPath := "fairlead/stuff",       byteOffset := 8 },     { name := "b",       type := 22,       offset := 2,       embedded := false,       tag := "",       pkgPath := "fairlead/stuff",       byteOffset := 16 },     { name := "long",       type := 4,       offset := 3,       embedded := false,       tag := "",       pkgPath := "fairlead/stuff",       byteOffset := 40 },     { name := "escaped",       type := 4,       offset := 4,       embedded := false,       tag := "",       pkgPath := "fairlead/stuff",       byteOffset := 41 },     { name := "dropped",       type := 3,       offset := 5,       embedded := false,       tag := "",       pkgPath := "fairlead/stuff",       byteOffset := 48 }], 6, 56, (.agg #[(.int .u32 0), (.int .i64 0), (.slice none 0 0), (.bool false), (.bool false), (.int .i64 0)])⟩

def tt : TT := [(3, ty3), (4, ty4), (5, ty5), (22, ty22), (23, ty23), (25, ty25), (28, ty28), (29, ty29), (32, ty32), (42, ty42), (44, ty44), (49, ty49)]

theorem ty3u : Try.prog.underlying 3 = some ty3.und := by kernel_rfl
theorem ty3i : (Try.prog.info? 3).map (fun x => (x.size, x.bytes, x.zero)) = some (ty3.size, ty3.bytes, some ty3.zero) := by kernel_rfl
theorem ty4u : Try.prog.underlying 4 = some ty4.und := by kernel_rfl
theorem ty4i : (Try.prog.info? 4).map (fun x => (x.size, x.bytes, x.zero)) = some (ty4.size, ty4.bytes, some ty4.zero) := by kernel_rfl
theorem ty5u : Try.prog.underlying 5 = some ty5.und := by kernel_rfl
theorem ty5i : (Try.prog.info? 5).map (fun x => (x.size, x.bytes, x.zero)) = some (ty5.size, ty5.bytes, some ty5.zero) := by kernel_rfl
theorem ty22u : Try.prog.underlying 22 = some ty22.und := by kernel_rfl
theorem ty22i : (Try.prog.info? 22).map (fun x => (x.size, x.bytes, x.zero)) = some (ty22.size, ty22.bytes, some ty22.zero) := by kernel_rfl
theorem ty23u : Try.prog.underlying 23 = some ty23.und := by kernel_rfl
theorem ty23i : (Try.prog.info? 23).map (fun x => (x.size, x.bytes, x.zero)) = some (ty23.size, ty23.bytes, some ty23.zero) := by kernel_rfl
theorem ty25u : Try.prog.underlying 25 = some ty25.und := by kernel_rfl
theorem ty25i : (Try.prog.info? 25).map (fun x => (x.size, x.bytes, x.zero)) = some (ty25.size, ty25.bytes, some ty25.zero) := by kernel_rfl
theorem ty28u : Try.prog.underlying 28 = some ty28.und := by kernel_rfl
theorem ty28i : (Try.prog.info? 28).map (fun x => (x.size, x.bytes, x.zero)) = some (ty28.size, ty28.bytes, some ty28.zero) := by kernel_rfl
theorem ty29u : Try.prog.underlying 29 = some ty29.und := by kernel_rfl
theorem ty29i : (Try.prog.info? 29).map (fun x => (x.size, x.bytes, x.zero)) = some (ty29.size, ty29.bytes, some ty29.zero) := by kernel_rfl
theorem ty32u : Try.prog.underlying 32 = some ty32.und := by kernel_rfl
theorem ty32i : (Try.prog.info? 32).map (fun x => (x.size, x.bytes, x.zero)) = some (ty32.size, ty32.bytes, some ty32.zero) := by kernel_rfl
theorem ty42u : Try.prog.underlying 42 = some ty42.und := by kernel_rfl
theorem ty42i : (Try.prog.info? 42).map (fun x => (x.size, x.bytes, x.zero)) = some (ty42.size, ty42.bytes, some ty42.zero) := by kernel_rfl
theorem ty44u : Try.prog.underlying 44 = some ty44.und := by kernel_rfl
theorem ty44i : (Try.prog.info? 44).map (fun x => (x.size, x.bytes, x.zero)) = some (ty44.size, ty44.bytes, some ty44.zero) := by kernel_rfl
theorem ty49u : Try.prog.underlying 49 = some ty49.und := by kernel_rfl
theorem ty49i : (Try.prog.info? 49).map (fun x => (x.size, x.bytes, x.zero)) = some (ty49.size, ty49.bytes, some ty49.zero) := by kernel_rfl

theorem tt_ok : TOk Try.prog tt := (.cons ty3u ty3i (.cons ty4u ty4i (.cons ty5u ty5i (.cons ty22u ty22i (.cons ty23u ty23i (.cons ty25u ty25i (.cons ty28u ty28i (.cons ty29u ty29i (.cons ty32u ty32i (.cons ty42u ty42i (.cons ty44u ty44i (.cons ty49u ty49i (.nil _)))))))))))))

end Go.Proofs.Ytgjengcmopgngaa
