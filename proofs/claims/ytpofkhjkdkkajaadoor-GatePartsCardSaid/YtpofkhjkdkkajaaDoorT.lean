/-
  The types that the program's code names, as the loaded program has them. Written by a program.
-/
import Derived.Test.YtpofkhjkdkkajaaDoorV
import Derived.Test.YtpofkhjkdkkajaaDoorProg
import Derived.KernelRfl
namespace Go.Proofs.YtpofkhjkdkkajaaDoor
open Go V

/-- int -/
def ty3 : TI := ⟨Go.TypeDesc.int (Go.IntKind.i64), 1, 8, (.int .i64 0)⟩
/-- bool -/
def ty4 : TI := ⟨Go.TypeDesc.bool, 1, 1, (.bool false)⟩
/-- uint8 -/
def ty5 : TI := ⟨Go.TypeDesc.int (Go.IntKind.u8), 1, 1, (.int .u8 0)⟩
/-- string -/
def ty9 : TI := ⟨Go.TypeDesc.string, 1, 16, (.string ByteArray.empty)⟩
/-- uintptr -/
def ty12 : TI := ⟨Go.TypeDesc.int (Go.IntKind.u64), 1, 8, (.int .u64 0)⟩
/-- *abi.Type -/
def ty17 : TI := ⟨Go.TypeDesc.pointer 160, 1, 8, (.pointer none)⟩
/-- interface {} -/
def ty20 : TI := ⟨Go.TypeDesc.interface #[], 1, 16, .nilIface⟩
/-- []fairleadref24.Datagram -/
def ty22 : TI := ⟨Go.TypeDesc.slice 29, 1, 24, (.slice none 0 0)⟩
/-- api.Form -/
def ty24 : TI := ⟨Go.TypeDesc.struct   #[{ name := "Acfc", type := 4, offset := 0, embedded := false, tag := "", pkgPath := "", byteOffset := 0 },     { name := "Pfc", type := 4, offset := 1, embedded := false, tag := "", pkgPath := "", byteOffset := 1 }], 2, 2, (.agg (Array.replicate 2 (.bool false)))⟩
/-- uint32 -/
def ty25 : TI := ⟨Go.TypeDesc.int (Go.IntKind.u32), 1, 4, (.int .u32 0)⟩
/-- []uint8 -/
def ty27 : TI := ⟨Go.TypeDesc.slice 5, 1, 24, (.slice none 0 0)⟩
/-- fairleadref24.Datagram -/
def ty29 : TI := ⟨Go.TypeDesc.struct   #[{ name := "Proto", type := 3, offset := 0, embedded := false, tag := "", pkgPath := "", byteOffset := 0 },     { name := "Info", type := 27, offset := 1, embedded := false, tag := "", pkgPath := "", byteOffset := 8 }], 2, 32, (.agg #[(.int .i64 0), (.slice none 0 0)])⟩
/-- []gate.Seen -/
def ty32 : TI := ⟨Go.TypeDesc.slice 37, 1, 24, (.slice none 0 0)⟩
/-- []int -/
def ty35 : TI := ⟨Go.TypeDesc.slice 3, 1, 24, (.slice none 0 0)⟩
/-- gate.Seen -/
def ty37 : TI := ⟨Go.TypeDesc.struct   #[{ name := "Proto", type := 3, offset := 0, embedded := false, tag := "", pkgPath := "", byteOffset := 0 },     { name := "Code", type := 3, offset := 1, embedded := false, tag := "", pkgPath := "", byteOffset := 8 },     { name := "Kinds", type := 35, offset := 2, embedded := false, tag := "", pkgPath := "", byteOffset := 16 },     { name := "Bytes", type := 3, offset := 3, embedded := false, tag := "", pkgPath := "", byteOffset := 40 },     { name := "Encrypted", type := 4, offset := 4, embedded := false, tag := "", pkgPath := "", byteOffset := 48 }], 5, 56, (.agg #[(.int .i64 0), (.int .i64 0), (.slice none 0 0), (.int .i64 0), (.bool false)])⟩
/-- []fairleadref24.Seen -/
def ty41 : TI := ⟨Go.TypeDesc.slice 44, 1, 24, (.slice none 0 0)⟩
/-- fairleadref24.Seen -/
def ty44 : TI := ⟨Go.TypeDesc.struct   #[{ name := "Proto", type := 3, offset := 0, embedded := false, tag := "", pkgPath := "", byteOffset := 0 },     { name := "Code", type := 3, offset := 1, embedded := false, tag := "", pkgPath := "", byteOffset := 8 },     { name := "Kinds", type := 35, offset := 2, embedded := false, tag := "", pkgPath := "", byteOffset := 16 },     { name := "Bytes", type := 3, offset := 3, embedded := false, tag := "", pkgPath := "", byteOffset := 40 },     { name := "Encrypted", type := 4, offset := 4, embedded := false, tag := "", pkgPath := "", byteOffset := 48 }], 5, 56, (.agg #[(.int .i64 0), (.int .i64 0), (.slice none 0 0), (.int .i64 0), (.bool false)])⟩
/-- func([]uint8) []uint8 -/
def ty52 : TI := ⟨Go.TypeDesc.func #[27] #[27] false, 1, 8, .nilFunc⟩
/-- *stuff.Deframer -/
def ty53 : TI := ⟨Go.TypeDesc.pointer 73, 1, 8, (.pointer none)⟩
/-- api.Errno -/
def ty54 : TI := ⟨Go.TypeDesc.int (Go.IntKind.i64), 1, 8, (.int .i64 0)⟩
/-- [][]uint8 -/
def ty57 : TI := ⟨Go.TypeDesc.slice 27, 1, 24, (.slice none 0 0)⟩
/-- fairleadref1.Deframer -/
def ty64 : TI := ⟨Go.TypeDesc.struct   #[{ name := "Accm", type := 25, offset := 0, embedded := false, tag := "", pkgPath := "", byteOffset := 0 },     { name := "Most", type := 3, offset := 1, embedded := false, tag := "", pkgPath := "", byteOffset := 8 },     { name := "B", type := 27, offset := 2, embedded := false, tag := "", pkgPath := "", byteOffset := 16 },     { name := "Escape", type := 4, offset := 3, embedded := false, tag := "", pkgPath := "", byteOffset := 40 },     { name := "Dropped", type := 3, offset := 4, embedded := false, tag := "", pkgPath := "", byteOffset := 48 }], 5, 56, (.agg #[(.int .u32 0), (.int .i64 0), (.slice none 0 0), (.bool false), (.int .i64 0)])⟩
/-- uint -/
def ty69 : TI := ⟨Go.TypeDesc.int (Go.IntKind.u64), 1, 8, (.int .u64 0)⟩
/-- uint16 -/
def ty70 : TI := ⟨Go.TypeDesc.int (Go.IntKind.u16), 1, 2, (.int .u16 0)⟩
/-- stuff.Deframer -/
def ty73 : TI := ⟨Go.TypeDesc.struct   #[{ name := "accm",       type := 25,       offset := 0,       embedded := false,       tag := "",       pkgPath := "fairlead/stuff",       byteOffset := 0 },     { name := "most",       type := 3,       offset := 1,       embedded := false,       tag := "",       pkgPath := "fairlead/stuff",       byteOffset := 8 },     { name := "b",       type := 27,       offset := 2,       embedded := false,       tag := "",       pkgPath := "fairlead/stuff",       byteOffset := 16 },     { name := "long",       type := 4,       offset := 3,       embedded := false,       tag := "",       pkgPath := "fairlead/stuff",       byteOffset := 40 },     { name := "escaped",       type := 4,       offset := 4,       embedded := false,       tag := "",       pkgPath := "fairlead/stuff",       byteOffset := 41 },     { name := "dropped",       type := 3,       offset := 5,       embedded := false,       tag := "",       pkgPath := "fairlead/stuff",       byteOffset := 48 }], 6, 56, (.agg #[(.int .u32 0), (.int .i64 0), (.slice none 0 0), (.bool false), (.bool false), (.int .i64 0)])⟩
/-- api.Packet -/
def ty80 : TI := ⟨Go.TypeDesc.struct   #[{ name := "Code", type := 3, offset := 0, embedded := false, tag := "", pkgPath := "", byteOffset := 0 },     { name := "Id", type := 3, offset := 1, embedded := false, tag := "", pkgPath := "", byteOffset := 8 },     { name := "Data", type := 27, offset := 2, embedded := false, tag := "", pkgPath := "", byteOffset := 16 }], 3, 40, (.agg #[(.int .i64 0), (.int .i64 0), (.slice none 0 0)])⟩
/-- []api.Option -/
def ty83 : TI := ⟨Go.TypeDesc.slice 87, 1, 24, (.slice none 0 0)⟩
/-- api.Option -/
def ty87 : TI := ⟨Go.TypeDesc.struct   #[{ name := "Type", type := 3, offset := 0, embedded := false, tag := "", pkgPath := "", byteOffset := 0 },     { name := "Data", type := 27, offset := 1, embedded := false, tag := "", pkgPath := "", byteOffset := 8 }], 2, 32, (.agg #[(.int .i64 0), (.slice none 0 0)])⟩
/-- error -/
def ty97 : TI := ⟨Go.TypeDesc.interface #[("Error", 147)], 1, 16, .nilIface⟩
/-- *api.Fault -/
def ty109 : TI := ⟨Go.TypeDesc.pointer 113, 1, 8, (.pointer none)⟩
/-- **api.Fault -/
def ty111 : TI := ⟨Go.TypeDesc.pointer 109, 1, 8, (.pointer none)⟩
/-- api.Fault -/
def ty113 : TI := ⟨Go.TypeDesc.struct   #[{ name := "Layer", type := 9, offset := 0, embedded := false, tag := "", pkgPath := "", byteOffset := 0 },     { name := "E", type := 54, offset := 1, embedded := false, tag := "", pkgPath := "", byteOffset := 16 }], 2, 24, (.agg #[(.string ByteArray.empty), (.int .i64 0)])⟩
/-- []api.Errno -/
def ty114 : TI := ⟨Go.TypeDesc.slice 54, 1, 24, (.slice none 0 0)⟩
/-- unsafe.Pointer -/
def ty117 : TI := ⟨Go.TypeDesc.unsafePointer, 1, 8, (.pointer none)⟩
/-- reflectlite.flag -/
def ty118 : TI := ⟨Go.TypeDesc.int (Go.IntKind.u64), 1, 8, (.int .u64 0)⟩
/-- reflectlite.Value -/
def ty120 : TI := ⟨Go.TypeDesc.struct   #[{ name := "typ_",       type := 17,       offset := 0,       embedded := false,       tag := "",       pkgPath := "internal/reflectlite",       byteOffset := 0 },     { name := "ptr",       type := 117,       offset := 1,       embedded := false,       tag := "",       pkgPath := "internal/reflectlite",       byteOffset := 8 },     { name := "flag",       type := 118,       offset := 2,       embedded := true,       tag := "",       pkgPath := "internal/reflectlite",       byteOffset := 16 }], 3, 24, (.agg #[(.pointer none), (.pointer none), (.int .u64 0)])⟩
/-- reflectlite.Type -/
def ty123 : TI := ⟨Go.TypeDesc.interface   #[("AssignableTo", 127), ("Comparable", 26), ("Elem", 124), ("Implements", 127), ("Kind", 126), ("Name", 147),     ("PkgPath", 147), ("Size", 161), ("String", 147), ("internal/reflectlite.common", 153),     ("internal/reflectlite.uncommon", 162)], 1, 16, .nilIface⟩
/-- abi.Kind -/
def ty125 : TI := ⟨Go.TypeDesc.int (Go.IntKind.u8), 1, 1, (.int .u8 0)⟩
/-- interface { As(interface {}) bool } -/
def ty136 : TI := ⟨Go.TypeDesc.interface #[("As", 138)], 1, 16, .nilIface⟩
/-- interface { Unwrap() error } -/
def ty139 : TI := ⟨Go.TypeDesc.interface #[("Unwrap", 140)], 1, 16, .nilIface⟩
/-- interface { Unwrap() []error } -/
def ty141 : TI := ⟨Go.TypeDesc.interface #[("Unwrap", 143)], 1, 16, .nilIface⟩
/-- []error -/
def ty142 : TI := ⟨Go.TypeDesc.slice 97, 1, 24, (.slice none 0 0)⟩
/-- interface { Is(error) bool } -/
def ty144 : TI := ⟨Go.TypeDesc.interface #[("Is", 146)], 1, 16, .nilIface⟩
/-- abi.TFlag -/
def ty154 : TI := ⟨Go.TypeDesc.int (Go.IntKind.u8), 1, 1, (.int .u8 0)⟩
/-- func(unsafe.Pointer, unsafe.Pointer) bool -/
def ty155 : TI := ⟨Go.TypeDesc.func #[117, 117] #[4] false, 1, 8, .nilFunc⟩
/-- *uint8 -/
def ty156 : TI := ⟨Go.TypeDesc.pointer 5, 1, 8, (.pointer none)⟩
/-- abi.NameOff -/
def ty157 : TI := ⟨Go.TypeDesc.int (Go.IntKind.i32), 1, 4, (.int .i32 0)⟩
/-- abi.TypeOff -/
def ty158 : TI := ⟨Go.TypeDesc.int (Go.IntKind.i32), 1, 4, (.int .i32 0)⟩
/-- abi.Type -/
def ty160 : TI := ⟨Go.TypeDesc.struct   #[{ name := "Size_", type := 12, offset := 0, embedded := false, tag := "", pkgPath := "", byteOffset := 0 },     { name := "PtrBytes", type := 12, offset := 1, embedded := false, tag := "", pkgPath := "", byteOffset := 8 },     { name := "Hash", type := 25, offset := 2, embedded := false, tag := "", pkgPath := "", byteOffset := 16 },     { name := "TFlag", type := 154, offset := 3, embedded := false, tag := "", pkgPath := "", byteOffset := 20 },     { name := "Align_", type := 5, offset := 4, embedded := false, tag := "", pkgPath := "", byteOffset := 21 },     { name := "FieldAlign_", type := 5, offset := 5, embedded := false, tag := "", pkgPath := "", byteOffset := 22 },     { name := "Kind_", type := 125, offset := 6, embedded := false, tag := "", pkgPath := "", byteOffset := 23 },     { name := "Equal", type := 155, offset := 7, embedded := false, tag := "", pkgPath := "", byteOffset := 24 },     { name := "GCData", type := 156, offset := 8, embedded := false, tag := "", pkgPath := "", byteOffset := 32 },     { name := "Str", type := 157, offset := 9, embedded := false, tag := "", pkgPath := "", byteOffset := 40 },     { name := "PtrToThis", type := 158, offset := 10, embedded := false, tag := "", pkgPath := "", byteOffset := 44 }], 11, 48, (.agg #[(.int .u64 0), (.int .u64 0), (.int .u32 0), (.int .u8 0), (.int .u8 0), (.int .u8 0), (.int .u8 0), .nilFunc, (.pointer none), (.int .i32 0), (.int .i32 0)])⟩
/-- *error -/
def ty173 : TI := ⟨Go.TypeDesc.pointer 97, 1, 8, (.pointer none)⟩

def tt : TT := [(3, ty3), (4, ty4), (5, ty5), (9, ty9), (12, ty12), (17, ty17), (20, ty20), (22, ty22), (24, ty24), (25, ty25), (27, ty27), (29, ty29), (32, ty32), (35, ty35), (37, ty37), (41, ty41), (44, ty44), (52, ty52), (53, ty53), (54, ty54), (57, ty57), (64, ty64), (69, ty69), (70, ty70), (73, ty73), (80, ty80), (83, ty83), (87, ty87), (97, ty97), (109, ty109), (111, ty111), (113, ty113), (114, ty114), (117, ty117), (118, ty118), (120, ty120), (123, ty123), (125, ty125), (136, ty136), (139, ty139), (141, ty141), (142, ty142), (144, ty144), (154, ty154), (155, ty155), (156, ty156), (157, ty157), (158, ty158), (160, ty160), (173, ty173)]

theorem ty3u : Tryd.prog.underlying 3 = some ty3.und := by kernel_rfl
theorem ty3i : (Tryd.prog.info? 3).map (fun x => (x.size, x.bytes, x.zero)) = some (ty3.size, ty3.bytes, some ty3.zero) := by kernel_rfl
theorem ty4u : Tryd.prog.underlying 4 = some ty4.und := by kernel_rfl
theorem ty4i : (Tryd.prog.info? 4).map (fun x => (x.size, x.bytes, x.zero)) = some (ty4.size, ty4.bytes, some ty4.zero) := by kernel_rfl
theorem ty5u : Tryd.prog.underlying 5 = some ty5.und := by kernel_rfl
theorem ty5i : (Tryd.prog.info? 5).map (fun x => (x.size, x.bytes, x.zero)) = some (ty5.size, ty5.bytes, some ty5.zero) := by kernel_rfl
theorem ty9u : Tryd.prog.underlying 9 = some ty9.und := by kernel_rfl
theorem ty9i : (Tryd.prog.info? 9).map (fun x => (x.size, x.bytes, x.zero)) = some (ty9.size, ty9.bytes, some ty9.zero) := by kernel_rfl
theorem ty12u : Tryd.prog.underlying 12 = some ty12.und := by kernel_rfl
theorem ty12i : (Tryd.prog.info? 12).map (fun x => (x.size, x.bytes, x.zero)) = some (ty12.size, ty12.bytes, some ty12.zero) := by kernel_rfl
theorem ty17u : Tryd.prog.underlying 17 = some ty17.und := by kernel_rfl
theorem ty17i : (Tryd.prog.info? 17).map (fun x => (x.size, x.bytes, x.zero)) = some (ty17.size, ty17.bytes, some ty17.zero) := by kernel_rfl
theorem ty20u : Tryd.prog.underlying 20 = some ty20.und := by kernel_rfl
theorem ty20i : (Tryd.prog.info? 20).map (fun x => (x.size, x.bytes, x.zero)) = some (ty20.size, ty20.bytes, some ty20.zero) := by kernel_rfl
theorem ty22u : Tryd.prog.underlying 22 = some ty22.und := by kernel_rfl
theorem ty22i : (Tryd.prog.info? 22).map (fun x => (x.size, x.bytes, x.zero)) = some (ty22.size, ty22.bytes, some ty22.zero) := by kernel_rfl
theorem ty24u : Tryd.prog.underlying 24 = some ty24.und := by kernel_rfl
theorem ty24i : (Tryd.prog.info? 24).map (fun x => (x.size, x.bytes, x.zero)) = some (ty24.size, ty24.bytes, some ty24.zero) := by kernel_rfl
theorem ty25u : Tryd.prog.underlying 25 = some ty25.und := by kernel_rfl
theorem ty25i : (Tryd.prog.info? 25).map (fun x => (x.size, x.bytes, x.zero)) = some (ty25.size, ty25.bytes, some ty25.zero) := by kernel_rfl
theorem ty27u : Tryd.prog.underlying 27 = some ty27.und := by kernel_rfl
theorem ty27i : (Tryd.prog.info? 27).map (fun x => (x.size, x.bytes, x.zero)) = some (ty27.size, ty27.bytes, some ty27.zero) := by kernel_rfl
theorem ty29u : Tryd.prog.underlying 29 = some ty29.und := by kernel_rfl
theorem ty29i : (Tryd.prog.info? 29).map (fun x => (x.size, x.bytes, x.zero)) = some (ty29.size, ty29.bytes, some ty29.zero) := by kernel_rfl
theorem ty32u : Tryd.prog.underlying 32 = some ty32.und := by kernel_rfl
theorem ty32i : (Tryd.prog.info? 32).map (fun x => (x.size, x.bytes, x.zero)) = some (ty32.size, ty32.bytes, some ty32.zero) := by kernel_rfl
theorem ty35u : Tryd.prog.underlying 35 = some ty35.und := by kernel_rfl
theorem ty35i : (Tryd.prog.info? 35).map (fun x => (x.size, x.bytes, x.zero)) = some (ty35.size, ty35.bytes, some ty35.zero) := by kernel_rfl
theorem ty37u : Tryd.prog.underlying 37 = some ty37.und := by kernel_rfl
theorem ty37i : (Tryd.prog.info? 37).map (fun x => (x.size, x.bytes, x.zero)) = some (ty37.size, ty37.bytes, some ty37.zero) := by kernel_rfl
theorem ty41u : Tryd.prog.underlying 41 = some ty41.und := by kernel_rfl
theorem ty41i : (Tryd.prog.info? 41).map (fun x => (x.size, x.bytes, x.zero)) = some (ty41.size, ty41.bytes, some ty41.zero) := by kernel_rfl
theorem ty44u : Tryd.prog.underlying 44 = some ty44.und := by kernel_rfl
theorem ty44i : (Tryd.prog.info? 44).map (fun x => (x.size, x.bytes, x.zero)) = some (ty44.size, ty44.bytes, some ty44.zero) := by kernel_rfl
theorem ty52u : Tryd.prog.underlying 52 = some ty52.und := by kernel_rfl
theorem ty52i : (Tryd.prog.info? 52).map (fun x => (x.size, x.bytes, x.zero)) = some (ty52.size, ty52.bytes, some ty52.zero) := by kernel_rfl
theorem ty53u : Tryd.prog.underlying 53 = some ty53.und := by kernel_rfl
theorem ty53i : (Tryd.prog.info? 53).map (fun x => (x.size, x.bytes, x.zero)) = some (ty53.size, ty53.bytes, some ty53.zero) := by kernel_rfl
theorem ty54u : Tryd.prog.underlying 54 = some ty54.und := by kernel_rfl
theorem ty54i : (Tryd.prog.info? 54).map (fun x => (x.size, x.bytes, x.zero)) = some (ty54.size, ty54.bytes, some ty54.zero) := by kernel_rfl
theorem ty57u : Tryd.prog.underlying 57 = some ty57.und := by kernel_rfl
theorem ty57i : (Tryd.prog.info? 57).map (fun x => (x.size, x.bytes, x.zero)) = some (ty57.size, ty57.bytes, some ty57.zero) := by kernel_rfl
theorem ty64u : Tryd.prog.underlying 64 = some ty64.und := by kernel_rfl
theorem ty64i : (Tryd.prog.info? 64).map (fun x => (x.size, x.bytes, x.zero)) = some (ty64.size, ty64.bytes, some ty64.zero) := by kernel_rfl
theorem ty69u : Tryd.prog.underlying 69 = some ty69.und := by kernel_rfl
theorem ty69i : (Tryd.prog.info? 69).map (fun x => (x.size, x.bytes, x.zero)) = some (ty69.size, ty69.bytes, some ty69.zero) := by kernel_rfl
theorem ty70u : Tryd.prog.underlying 70 = some ty70.und := by kernel_rfl
theorem ty70i : (Tryd.prog.info? 70).map (fun x => (x.size, x.bytes, x.zero)) = some (ty70.size, ty70.bytes, some ty70.zero) := by kernel_rfl
theorem ty73u : Tryd.prog.underlying 73 = some ty73.und := by kernel_rfl
theorem ty73i : (Tryd.prog.info? 73).map (fun x => (x.size, x.bytes, x.zero)) = some (ty73.size, ty73.bytes, some ty73.zero) := by kernel_rfl
theorem ty80u : Tryd.prog.underlying 80 = some ty80.und := by kernel_rfl
theorem ty80i : (Tryd.prog.info? 80).map (fun x => (x.size, x.bytes, x.zero)) = some (ty80.size, ty80.bytes, some ty80.zero) := by kernel_rfl
theorem ty83u : Tryd.prog.underlying 83 = some ty83.und := by kernel_rfl
theorem ty83i : (Tryd.prog.info? 83).map (fun x => (x.size, x.bytes, x.zero)) = some (ty83.size, ty83.bytes, some ty83.zero) := by kernel_rfl
theorem ty87u : Tryd.prog.underlying 87 = some ty87.und := by kernel_rfl
theorem ty87i : (Tryd.prog.info? 87).map (fun x => (x.size, x.bytes, x.zero)) = some (ty87.size, ty87.bytes, some ty87.zero) := by kernel_rfl
theorem ty97u : Tryd.prog.underlying 97 = some ty97.und := by kernel_rfl
theorem ty97i : (Tryd.prog.info? 97).map (fun x => (x.size, x.bytes, x.zero)) = some (ty97.size, ty97.bytes, some ty97.zero) := by kernel_rfl
theorem ty109u : Tryd.prog.underlying 109 = some ty109.und := by kernel_rfl
theorem ty109i : (Tryd.prog.info? 109).map (fun x => (x.size, x.bytes, x.zero)) = some (ty109.size, ty109.bytes, some ty109.zero) := by kernel_rfl
theorem ty111u : Tryd.prog.underlying 111 = some ty111.und := by kernel_rfl
theorem ty111i : (Tryd.prog.info? 111).map (fun x => (x.size, x.bytes, x.zero)) = some (ty111.size, ty111.bytes, some ty111.zero) := by kernel_rfl
theorem ty113u : Tryd.prog.underlying 113 = some ty113.und := by kernel_rfl
theorem ty113i : (Tryd.prog.info? 113).map (fun x => (x.size, x.bytes, x.zero)) = some (ty113.size, ty113.bytes, some ty113.zero) := by kernel_rfl
theorem ty114u : Tryd.prog.underlying 114 = some ty114.und := by kernel_rfl
theorem ty114i : (Tryd.prog.info? 114).map (fun x => (x.size, x.bytes, x.zero)) = some (ty114.size, ty114.bytes, some ty114.zero) := by kernel_rfl
theorem ty117u : Tryd.prog.underlying 117 = some ty117.und := by kernel_rfl
theorem ty117i : (Tryd.prog.info? 117).map (fun x => (x.size, x.bytes, x.zero)) = some (ty117.size, ty117.bytes, some ty117.zero) := by kernel_rfl
theorem ty118u : Tryd.prog.underlying 118 = some ty118.und := by kernel_rfl
theorem ty118i : (Tryd.prog.info? 118).map (fun x => (x.size, x.bytes, x.zero)) = some (ty118.size, ty118.bytes, some ty118.zero) := by kernel_rfl
theorem ty120u : Tryd.prog.underlying 120 = some ty120.und := by kernel_rfl
theorem ty120i : (Tryd.prog.info? 120).map (fun x => (x.size, x.bytes, x.zero)) = some (ty120.size, ty120.bytes, some ty120.zero) := by kernel_rfl
theorem ty123u : Tryd.prog.underlying 123 = some ty123.und := by kernel_rfl
theorem ty123i : (Tryd.prog.info? 123).map (fun x => (x.size, x.bytes, x.zero)) = some (ty123.size, ty123.bytes, some ty123.zero) := by kernel_rfl
theorem ty125u : Tryd.prog.underlying 125 = some ty125.und := by kernel_rfl
theorem ty125i : (Tryd.prog.info? 125).map (fun x => (x.size, x.bytes, x.zero)) = some (ty125.size, ty125.bytes, some ty125.zero) := by kernel_rfl
theorem ty136u : Tryd.prog.underlying 136 = some ty136.und := by kernel_rfl
theorem ty136i : (Tryd.prog.info? 136).map (fun x => (x.size, x.bytes, x.zero)) = some (ty136.size, ty136.bytes, some ty136.zero) := by kernel_rfl
theorem ty139u : Tryd.prog.underlying 139 = some ty139.und := by kernel_rfl
theorem ty139i : (Tryd.prog.info? 139).map (fun x => (x.size, x.bytes, x.zero)) = some (ty139.size, ty139.bytes, some ty139.zero) := by kernel_rfl
theorem ty141u : Tryd.prog.underlying 141 = some ty141.und := by kernel_rfl
theorem ty141i : (Tryd.prog.info? 141).map (fun x => (x.size, x.bytes, x.zero)) = some (ty141.size, ty141.bytes, some ty141.zero) := by kernel_rfl
theorem ty142u : Tryd.prog.underlying 142 = some ty142.und := by kernel_rfl
theorem ty142i : (Tryd.prog.info? 142).map (fun x => (x.size, x.bytes, x.zero)) = some (ty142.size, ty142.bytes, some ty142.zero) := by kernel_rfl
theorem ty144u : Tryd.prog.underlying 144 = some ty144.und := by kernel_rfl
theorem ty144i : (Tryd.prog.info? 144).map (fun x => (x.size, x.bytes, x.zero)) = some (ty144.size, ty144.bytes, some ty144.zero) := by kernel_rfl
theorem ty154u : Tryd.prog.underlying 154 = some ty154.und := by kernel_rfl
theorem ty154i : (Tryd.prog.info? 154).map (fun x => (x.size, x.bytes, x.zero)) = some (ty154.size, ty154.bytes, some ty154.zero) := by kernel_rfl
theorem ty155u : Tryd.prog.underlying 155 = some ty155.und := by kernel_rfl
theorem ty155i : (Tryd.prog.info? 155).map (fun x => (x.size, x.bytes, x.zero)) = some (ty155.size, ty155.bytes, some ty155.zero) := by kernel_rfl
theorem ty156u : Tryd.prog.underlying 156 = some ty156.und := by kernel_rfl
theorem ty156i : (Tryd.prog.info? 156).map (fun x => (x.size, x.bytes, x.zero)) = some (ty156.size, ty156.bytes, some ty156.zero) := by kernel_rfl
theorem ty157u : Tryd.prog.underlying 157 = some ty157.und := by kernel_rfl
theorem ty157i : (Tryd.prog.info? 157).map (fun x => (x.size, x.bytes, x.zero)) = some (ty157.size, ty157.bytes, some ty157.zero) := by kernel_rfl
theorem ty158u : Tryd.prog.underlying 158 = some ty158.und := by kernel_rfl
theorem ty158i : (Tryd.prog.info? 158).map (fun x => (x.size, x.bytes, x.zero)) = some (ty158.size, ty158.bytes, some ty158.zero) := by kernel_rfl
theorem ty160u : Tryd.prog.underlying 160 = some ty160.und := by kernel_rfl
theorem ty160i : (Tryd.prog.info? 160).map (fun x => (x.size, x.bytes, x.zero)) = some (ty160.size, ty160.bytes, some ty160.zero) := by kernel_rfl
theorem ty173u : Tryd.prog.underlying 173 = some ty173.und := by kernel_rfl
theorem ty173i : (Tryd.prog.info? 173).map (fun x => (x.size, x.bytes, x.zero)) = some (ty173.size, ty173.bytes, some ty173.zero) := by kernel_rfl

theorem tt_ok : TOk Tryd.prog tt := (.cons ty3u ty3i (.cons ty4u ty4i (.cons ty5u ty5i (.cons ty9u ty9i (.cons ty12u ty12i (.cons ty17u ty17i (.cons ty20u ty20i (.cons ty22u ty22i (.cons ty24u ty24i (.cons ty25u ty25i (.cons ty27u ty27i (.cons ty29u ty29i (.cons ty32u ty32i (.cons ty35u ty35i (.cons ty37u ty37i (.cons ty41u ty41i (.cons ty44u ty44i (.cons ty52u ty52i (.cons ty53u ty53i (.cons ty54u ty54i (.cons ty57u ty57i (.cons ty64u ty64i (.cons ty69u ty69i (.cons ty70u ty70i (.cons ty73u ty73i (.cons ty80u ty80i (.cons ty83u ty83i (.cons ty87u ty87i (.cons ty97u ty97i (.cons ty109u ty109i (.cons ty111u ty111i (.cons ty113u ty113i (.cons ty114u ty114i (.cons ty117u ty117i (.cons ty118u ty118i (.cons ty120u ty120i (.cons ty123u ty123i (.cons ty125u ty125i (.cons ty136u ty136i (.cons ty139u ty139i (.cons ty141u ty141i (.cons ty142u ty142i (.cons ty144u ty144i (.cons ty154u ty154i (.cons ty155u ty155i (.cons ty156u ty156i (.cons ty157u ty157i (.cons ty158u ty158i (.cons ty160u ty160i (.cons ty173u ty173i (.nil _)))))))))))))))))))))))))))))))))))))))))))))))))))

end Go.Proofs.YtpofkhjkdkkajaaDoor
