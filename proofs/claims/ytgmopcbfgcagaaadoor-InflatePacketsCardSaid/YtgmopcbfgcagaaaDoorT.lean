/-
  The types that the program's code names, as the loaded program has them. Written by a program.
-/
import Derived.Test.YtgmopcbfgcagaaaDoorV
import Derived.Test.YtgmopcbfgcagaaaDoorProg
import Derived.KernelRfl
namespace Go.Proofs.YtgmopcbfgcagaaaDoor
open Go V

/-- int -/
def ty3 : TI := ⟨Go.TypeDesc.int (Go.IntKind.i64), 1, 8, (.int .i64 0)⟩
/-- bool -/
def ty4 : TI := ⟨Go.TypeDesc.bool, 1, 1, (.bool false)⟩
/-- uint8 -/
def ty5 : TI := ⟨Go.TypeDesc.int (Go.IntKind.u8), 1, 1, (.int .u8 0)⟩
/-- string -/
def ty9 : TI := ⟨Go.TypeDesc.string, 1, 16, (.string ByteArray.empty)⟩
/-- uintptr -/
def ty12 : TI := ⟨Go.TypeDesc.int (Go.IntKind.u64), 1, 8, (.int .u64 0)⟩
/-- *abi.Type -/
def ty17 : TI := ⟨Go.TypeDesc.pointer 172, 1, 8, (.pointer none)⟩
/-- interface {} -/
def ty20 : TI := ⟨Go.TypeDesc.interface #[], 1, 16, .nilIface⟩
/-- []uint8 -/
def ty22 : TI := ⟨Go.TypeDesc.slice 5, 1, 24, (.slice none 0 0)⟩
/-- uint -/
def ty24 : TI := ⟨Go.TypeDesc.int (Go.IntKind.u64), 1, 8, (.int .u64 0)⟩
/-- api.Errno -/
def ty25 : TI := ⟨Go.TypeDesc.int (Go.IntKind.i64), 1, 8, (.int .i64 0)⟩
/-- *inflate.Inflater -/
def ty32 : TI := ⟨Go.TypeDesc.pointer 59, 1, 8, (.pointer none)⟩
/-- []fairleadlaw18.Deed -/
def ty38 : TI := ⟨Go.TypeDesc.slice 40, 1, 24, (.slice none 0 0)⟩
/-- fairleadlaw18.Deed -/
def ty40 : TI := ⟨Go.TypeDesc.struct   #[{ name := "Do", type := 3, offset := 0, embedded := false, tag := "", pkgPath := "", byteOffset := 0 },     { name := "Most", type := 3, offset := 1, embedded := false, tag := "", pkgPath := "", byteOffset := 8 },     { name := "B", type := 22, offset := 2, embedded := false, tag := "", pkgPath := "", byteOffset := 16 }], 3, 40, (.agg #[(.int .i64 0), (.int .i64 0), (.slice none 0 0)])⟩
/-- *fairleadref16.Inflater -/
def ty41 : TI := ⟨Go.TypeDesc.pointer 43, 1, 8, (.pointer none)⟩
/-- fairleadref16.Inflater -/
def ty43 : TI := ⟨Go.TypeDesc.struct   #[{ name := "H", type := 22, offset := 0, embedded := false, tag := "", pkgPath := "", byteOffset := 0 }], 1, 24, (.agg (Array.replicate 1 (.slice none 0 0)))⟩
/-- *inflate.reader -/
def ty47 : TI := ⟨Go.TypeDesc.pointer 57, 1, 8, (.pointer none)⟩
/-- error -/
def ty50 : TI := ⟨Go.TypeDesc.interface #[("Error", 158)], 1, 16, .nilIface⟩
/-- *bits.Reader -/
def ty55 : TI := ⟨Go.TypeDesc.pointer 88, 1, 8, (.pointer none)⟩
/-- inflate.reader -/
def ty57 : TI := ⟨Go.TypeDesc.struct   #[{ name := "r",       type := 55,       offset := 0,       embedded := false,       tag := "",       pkgPath := "fairlead/inflate",       byteOffset := 0 },     { name := "all",       type := 22,       offset := 1,       embedded := false,       tag := "",       pkgPath := "fairlead/inflate",       byteOffset := 8 },     { name := "from",       type := 3,       offset := 2,       embedded := false,       tag := "",       pkgPath := "fairlead/inflate",       byteOffset := 32 },     { name := "most",       type := 3,       offset := 3,       embedded := false,       tag := "",       pkgPath := "fairlead/inflate",       byteOffset := 40 }], 4, 48, (.agg #[(.pointer none), (.slice none 0 0), (.int .i64 0), (.int .i64 0)])⟩
/-- inflate.Inflater -/
def ty59 : TI := ⟨Go.TypeDesc.struct   #[{ name := "made",       type := 4,       offset := 0,       embedded := false,       tag := "",       pkgPath := "fairlead/inflate",       byteOffset := 0 },     { name := "history",       type := 22,       offset := 1,       embedded := false,       tag := "",       pkgPath := "fairlead/inflate",       byteOffset := 8 }], 2, 32, (.agg #[(.bool false), (.slice none 0 0)])⟩
/-- *fairleadref16.reader -/
def ty60 : TI := ⟨Go.TypeDesc.pointer 64, 1, 8, (.pointer none)⟩
/-- *fairleadref1.Bits -/
def ty62 : TI := ⟨Go.TypeDesc.pointer 91, 1, 8, (.pointer none)⟩
/-- fairleadref16.reader -/
def ty64 : TI := ⟨Go.TypeDesc.struct   #[{ name := "r",       type := 62,       offset := 0,       embedded := false,       tag := "",       pkgPath := "fairlead/fairleadref16",       byteOffset := 0 },     { name := "h",       type := 22,       offset := 1,       embedded := false,       tag := "",       pkgPath := "fairlead/fairleadref16",       byteOffset := 8 },     { name := "from",       type := 3,       offset := 2,       embedded := false,       tag := "",       pkgPath := "fairlead/fairleadref16",       byteOffset := 32 },     { name := "most",       type := 3,       offset := 3,       embedded := false,       tag := "",       pkgPath := "fairlead/fairleadref16",       byteOffset := 40 },     { name := "bad",       type := 3,       offset := 4,       embedded := false,       tag := "",       pkgPath := "fairlead/fairleadref16",       byteOffset := 48 }], 5, 56, (.agg #[(.pointer none), (.slice none 0 0), (.int .i64 0), (.int .i64 0), (.int .i64 0)])⟩
/-- *huff.Table -/
def ty72 : TI := ⟨Go.TypeDesc.pointer 135, 1, 8, (.pointer none)⟩
/-- *api.Fault -/
def ty81 : TI := ⟨Go.TypeDesc.pointer 85, 1, 8, (.pointer none)⟩
/-- **api.Fault -/
def ty83 : TI := ⟨Go.TypeDesc.pointer 81, 1, 8, (.pointer none)⟩
/-- api.Fault -/
def ty85 : TI := ⟨Go.TypeDesc.struct   #[{ name := "Layer", type := 9, offset := 0, embedded := false, tag := "", pkgPath := "", byteOffset := 0 },     { name := "E", type := 25, offset := 1, embedded := false, tag := "", pkgPath := "", byteOffset := 16 }], 2, 24, (.agg #[(.string ByteArray.empty), (.int .i64 0)])⟩
/-- func(int, int) int -/
def ty86 : TI := ⟨Go.TypeDesc.func #[3, 3] #[3] false, 1, 8, .nilFunc⟩
/-- bits.Reader -/
def ty88 : TI := ⟨Go.TypeDesc.struct   #[{ name := "b", type := 22, offset := 0, embedded := false, tag := "", pkgPath := "fairlead/bits", byteOffset := 0 },     { name := "n", type := 3, offset := 1, embedded := false, tag := "", pkgPath := "fairlead/bits", byteOffset := 24 },     { name := "place",       type := 86,       offset := 2,       embedded := false,       tag := "",       pkgPath := "fairlead/bits",       byteOffset := 32 }], 3, 40, (.agg #[(.slice none 0 0), (.int .i64 0), .nilFunc])⟩
/-- fairleadref1.Bits -/
def ty91 : TI := ⟨Go.TypeDesc.struct   #[{ name := "B", type := 22, offset := 0, embedded := false, tag := "", pkgPath := "", byteOffset := 0 },     { name := "At", type := 3, offset := 1, embedded := false, tag := "", pkgPath := "", byteOffset := 24 },     { name := "High", type := 4, offset := 2, embedded := false, tag := "", pkgPath := "", byteOffset := 32 }], 3, 40, (.agg #[(.slice none 0 0), (.int .i64 0), (.bool false)])⟩
/-- *fairleadref16.Table -/
def ty93 : TI := ⟨Go.TypeDesc.pointer 152, 1, 8, (.pointer none)⟩
/-- bits.order -/
def ty98 : TI := ⟨Go.TypeDesc.struct   #[{ name := "high",       type := 4,       offset := 0,       embedded := false,       tag := "",       pkgPath := "fairlead/bits",       byteOffset := 0 }], 1, 1, (.agg (Array.replicate 1 (.bool false)))⟩
/-- [3]int -/
def ty104 : TI := ⟨Go.TypeDesc.array 3 3, 3, 24, (.agg (Array.replicate 3 (.int .i64 0)))⟩
/-- []int -/
def ty107 : TI := ⟨Go.TypeDesc.slice 3, 1, 24, (.slice none 0 0)⟩
/-- unsafe.Pointer -/
def ty116 : TI := ⟨Go.TypeDesc.unsafePointer, 1, 8, (.pointer none)⟩
/-- reflectlite.flag -/
def ty117 : TI := ⟨Go.TypeDesc.int (Go.IntKind.u64), 1, 8, (.int .u64 0)⟩
/-- reflectlite.Value -/
def ty119 : TI := ⟨Go.TypeDesc.struct   #[{ name := "typ_",       type := 17,       offset := 0,       embedded := false,       tag := "",       pkgPath := "internal/reflectlite",       byteOffset := 0 },     { name := "ptr",       type := 116,       offset := 1,       embedded := false,       tag := "",       pkgPath := "internal/reflectlite",       byteOffset := 8 },     { name := "flag",       type := 117,       offset := 2,       embedded := true,       tag := "",       pkgPath := "internal/reflectlite",       byteOffset := 16 }], 3, 24, (.agg #[(.pointer none), (.pointer none), (.int .u64 0)])⟩
/-- reflectlite.Type -/
def ty122 : TI := ⟨Go.TypeDesc.interface   #[("AssignableTo", 126), ("Comparable", 23), ("Elem", 123), ("Implements", 126), ("Kind", 125), ("Name", 158),     ("PkgPath", 158), ("Size", 173), ("String", 158), ("internal/reflectlite.common", 164),     ("internal/reflectlite.uncommon", 174)], 1, 16, .nilIface⟩
/-- abi.Kind -/
def ty124 : TI := ⟨Go.TypeDesc.int (Go.IntKind.u8), 1, 1, (.int .u8 0)⟩
/-- [16]int -/
def ty133 : TI := ⟨Go.TypeDesc.array 16 3, 16, 128, (.agg (Array.replicate 16 (.int .i64 0)))⟩
/-- huff.Table -/
def ty135 : TI := ⟨Go.TypeDesc.struct   #[{ name := "made",       type := 4,       offset := 0,       embedded := false,       tag := "",       pkgPath := "fairlead/huff",       byteOffset := 0 },     { name := "lens",       type := 107,       offset := 1,       embedded := false,       tag := "",       pkgPath := "fairlead/huff",       byteOffset := 8 },     { name := "codes",       type := 107,       offset := 2,       embedded := false,       tag := "",       pkgPath := "fairlead/huff",       byteOffset := 32 },     { name := "count",       type := 133,       offset := 3,       embedded := false,       tag := "",       pkgPath := "fairlead/huff",       byteOffset := 56 },     { name := "order",       type := 107,       offset := 19,       embedded := false,       tag := "",       pkgPath := "fairlead/huff",       byteOffset := 184 }], 20, 208, (.agg #[(.bool false), (.slice none 0 0), (.slice none 0 0), (.int .i64 0), (.int .i64 0), (.int .i64 0), (.int .i64 0), (.int .i64 0), (.int .i64 0), (.int .i64 0), (.int .i64 0), (.int .i64 0), (.int .i64 0), (.int .i64 0), (.int .i64 0), (.int .i64 0), (.int .i64 0), (.int .i64 0), (.int .i64 0), (.slice none 0 0)])⟩
/-- interface { As(interface {}) bool } -/
def ty143 : TI := ⟨Go.TypeDesc.interface #[("As", 145)], 1, 16, .nilIface⟩
/-- interface { Unwrap() error } -/
def ty146 : TI := ⟨Go.TypeDesc.interface #[("Unwrap", 147)], 1, 16, .nilIface⟩
/-- interface { Unwrap() []error } -/
def ty148 : TI := ⟨Go.TypeDesc.interface #[("Unwrap", 150)], 1, 16, .nilIface⟩
/-- []error -/
def ty149 : TI := ⟨Go.TypeDesc.slice 50, 1, 24, (.slice none 0 0)⟩
/-- fairleadref16.Table -/
def ty152 : TI := ⟨Go.TypeDesc.struct   #[{ name := "Lens", type := 107, offset := 0, embedded := false, tag := "", pkgPath := "", byteOffset := 0 },     { name := "Codes", type := 107, offset := 1, embedded := false, tag := "", pkgPath := "", byteOffset := 24 }], 2, 48, (.agg (Array.replicate 2 (.slice none 0 0)))⟩
/-- uint32 -/
def ty165 : TI := ⟨Go.TypeDesc.int (Go.IntKind.u32), 1, 4, (.int .u32 0)⟩
/-- abi.TFlag -/
def ty166 : TI := ⟨Go.TypeDesc.int (Go.IntKind.u8), 1, 1, (.int .u8 0)⟩
/-- func(unsafe.Pointer, unsafe.Pointer) bool -/
def ty167 : TI := ⟨Go.TypeDesc.func #[116, 116] #[4] false, 1, 8, .nilFunc⟩
/-- *uint8 -/
def ty168 : TI := ⟨Go.TypeDesc.pointer 5, 1, 8, (.pointer none)⟩
/-- abi.NameOff -/
def ty169 : TI := ⟨Go.TypeDesc.int (Go.IntKind.i32), 1, 4, (.int .i32 0)⟩
/-- abi.TypeOff -/
def ty170 : TI := ⟨Go.TypeDesc.int (Go.IntKind.i32), 1, 4, (.int .i32 0)⟩
/-- abi.Type -/
def ty172 : TI := ⟨Go.TypeDesc.struct   #[{ name := "Size_", type := 12, offset := 0, embedded := false, tag := "", pkgPath := "", byteOffset := 0 },     { name := "PtrBytes", type := 12, offset := 1, embedded := false, tag := "", pkgPath := "", byteOffset := 8 },     { name := "Hash", type := 165, offset := 2, embedded := false, tag := "", pkgPath := "", byteOffset := 16 },     { name := "TFlag", type := 166, offset := 3, embedded := false, tag := "", pkgPath := "", byteOffset := 20 },     { name := "Align_", type := 5, offset := 4, embedded := false, tag := "", pkgPath := "", byteOffset := 21 },     { name := "FieldAlign_", type := 5, offset := 5, embedded := false, tag := "", pkgPath := "", byteOffset := 22 },     { name := "Kind_", type := 124, offset := 6, embedded := false, tag := "", pkgPath := "", byteOffset := 23 },     { name := "Equal", type := 167, offset := 7, embedded := false, tag := "", pkgPath := "", byteOffset := 24 },     { name := "GCData", type := 168, offset := 8, embedded := false, tag := "", pkgPath := "", byteOffset := 32 },     { name := "Str", type := 169, offset := 9, embedded := false, tag := "", pkgPath := "", byteOffset := 40 },     { name := "PtrToThis", type := 170, offset := 10, embedded := false, tag := "", pkgPath := "", byteOffset := 44 }], 11, 48, (.agg #[(.int .u64 0), (.int .u64 0), (.int .u32 0), (.int .u8 0), (.int .u8 0), (.int .u8 0), (.int .u8 0), .nilFunc, (.pointer none), (.int .i32 0), (.int .i32 0)])⟩
/-- *error -/
def ty186 : TI := ⟨Go.TypeDesc.pointer 50, 1, 8, (.pointer none)⟩

def tt : TT := [(3, ty3), (4, ty4), (5, ty5), (9, ty9), (12, ty12), (17, ty17), (20, ty20), (22, ty22), (24, ty24), (25, ty25), (32, ty32), (38, ty38), (40, ty40), (41, ty41), (43, ty43), (47, ty47), (50, ty50), (55, ty55), (57, ty57), (59, ty59), (60, ty60), (62, ty62), (64, ty64), (72, ty72), (81, ty81), (83, ty83), (85, ty85), (86, ty86), (88, ty88), (91, ty91), (93, ty93), (98, ty98), (104, ty104), (107, ty107), (116, ty116), (117, ty117), (119, ty119), (122, ty122), (124, ty124), (133, ty133), (135, ty135), (143, ty143), (146, ty146), (148, ty148), (149, ty149), (152, ty152), (165, ty165), (166, ty166), (167, ty167), (168, ty168), (169, ty169), (170, ty170), (172, ty172), (186, ty186)]

theorem ty3u : Tryd.prog.underlying 3 = some ty3.und := by kernel_rfl
theorem ty3i : (Tryd.prog.info? 3).map (fun x => (x.size, x.bytes, x.zero)) = some (ty3.size, ty3.bytes, some ty3.zero) := by kernel_rfl
theorem ty4u : Tryd.prog.underlying 4 = some ty4.und := by kernel_rfl
theorem ty4i : (Tryd.prog.info? 4).map (fun x => (x.size, x.bytes, x.zero)) = some (ty4.size, ty4.bytes, some ty4.zero) := by kernel_rfl
theorem ty5u : Tryd.prog.underlying 5 = some ty5.und := by kernel_rfl
theorem ty5i : (Tryd.prog.info? 5).map (fun x => (x.size, x.bytes, x.zero)) = some (ty5.size, ty5.bytes, some ty5.zero) := by kernel_rfl
theorem ty9u : Tryd.prog.underlying 9 = some ty9.und := by kernel_rfl
theorem ty9i : (Tryd.prog.info? 9).map (fun x => (x.size, x.bytes, x.zero)) = some (ty9.size, ty9.bytes, some ty9.zero) := by kernel_rfl
theorem ty12u : Tryd.prog.underlying 12 = some ty12.und := by kernel_rfl
theorem ty12i : (Tryd.prog.info? 12).map (fun x => (x.size, x.bytes, x.zero)) = some (ty12.size, ty12.bytes, some ty12.zero) := by kernel_rfl
theorem ty17u : Tryd.prog.underlying 17 = some ty17.und := by kernel_rfl
theorem ty17i : (Tryd.prog.info? 17).map (fun x => (x.size, x.bytes, x.zero)) = some (ty17.size, ty17.bytes, some ty17.zero) := by kernel_rfl
theorem ty20u : Tryd.prog.underlying 20 = some ty20.und := by kernel_rfl
theorem ty20i : (Tryd.prog.info? 20).map (fun x => (x.size, x.bytes, x.zero)) = some (ty20.size, ty20.bytes, some ty20.zero) := by kernel_rfl
theorem ty22u : Tryd.prog.underlying 22 = some ty22.und := by kernel_rfl
theorem ty22i : (Tryd.prog.info? 22).map (fun x => (x.size, x.bytes, x.zero)) = some (ty22.size, ty22.bytes, some ty22.zero) := by kernel_rfl
theorem ty24u : Tryd.prog.underlying 24 = some ty24.und := by kernel_rfl
theorem ty24i : (Tryd.prog.info? 24).map (fun x => (x.size, x.bytes, x.zero)) = some (ty24.size, ty24.bytes, some ty24.zero) := by kernel_rfl
theorem ty25u : Tryd.prog.underlying 25 = some ty25.und := by kernel_rfl
theorem ty25i : (Tryd.prog.info? 25).map (fun x => (x.size, x.bytes, x.zero)) = some (ty25.size, ty25.bytes, some ty25.zero) := by kernel_rfl
theorem ty32u : Tryd.prog.underlying 32 = some ty32.und := by kernel_rfl
theorem ty32i : (Tryd.prog.info? 32).map (fun x => (x.size, x.bytes, x.zero)) = some (ty32.size, ty32.bytes, some ty32.zero) := by kernel_rfl
theorem ty38u : Tryd.prog.underlying 38 = some ty38.und := by kernel_rfl
theorem ty38i : (Tryd.prog.info? 38).map (fun x => (x.size, x.bytes, x.zero)) = some (ty38.size, ty38.bytes, some ty38.zero) := by kernel_rfl
theorem ty40u : Tryd.prog.underlying 40 = some ty40.und := by kernel_rfl
theorem ty40i : (Tryd.prog.info? 40).map (fun x => (x.size, x.bytes, x.zero)) = some (ty40.size, ty40.bytes, some ty40.zero) := by kernel_rfl
theorem ty41u : Tryd.prog.underlying 41 = some ty41.und := by kernel_rfl
theorem ty41i : (Tryd.prog.info? 41).map (fun x => (x.size, x.bytes, x.zero)) = some (ty41.size, ty41.bytes, some ty41.zero) := by kernel_rfl
theorem ty43u : Tryd.prog.underlying 43 = some ty43.und := by kernel_rfl
theorem ty43i : (Tryd.prog.info? 43).map (fun x => (x.size, x.bytes, x.zero)) = some (ty43.size, ty43.bytes, some ty43.zero) := by kernel_rfl
theorem ty47u : Tryd.prog.underlying 47 = some ty47.und := by kernel_rfl
theorem ty47i : (Tryd.prog.info? 47).map (fun x => (x.size, x.bytes, x.zero)) = some (ty47.size, ty47.bytes, some ty47.zero) := by kernel_rfl
theorem ty50u : Tryd.prog.underlying 50 = some ty50.und := by kernel_rfl
theorem ty50i : (Tryd.prog.info? 50).map (fun x => (x.size, x.bytes, x.zero)) = some (ty50.size, ty50.bytes, some ty50.zero) := by kernel_rfl
theorem ty55u : Tryd.prog.underlying 55 = some ty55.und := by kernel_rfl
theorem ty55i : (Tryd.prog.info? 55).map (fun x => (x.size, x.bytes, x.zero)) = some (ty55.size, ty55.bytes, some ty55.zero) := by kernel_rfl
theorem ty57u : Tryd.prog.underlying 57 = some ty57.und := by kernel_rfl
theorem ty57i : (Tryd.prog.info? 57).map (fun x => (x.size, x.bytes, x.zero)) = some (ty57.size, ty57.bytes, some ty57.zero) := by kernel_rfl
theorem ty59u : Tryd.prog.underlying 59 = some ty59.und := by kernel_rfl
theorem ty59i : (Tryd.prog.info? 59).map (fun x => (x.size, x.bytes, x.zero)) = some (ty59.size, ty59.bytes, some ty59.zero) := by kernel_rfl
theorem ty60u : Tryd.prog.underlying 60 = some ty60.und := by kernel_rfl
theorem ty60i : (Tryd.prog.info? 60).map (fun x => (x.size, x.bytes, x.zero)) = some (ty60.size, ty60.bytes, some ty60.zero) := by kernel_rfl
theorem ty62u : Tryd.prog.underlying 62 = some ty62.und := by kernel_rfl
theorem ty62i : (Tryd.prog.info? 62).map (fun x => (x.size, x.bytes, x.zero)) = some (ty62.size, ty62.bytes, some ty62.zero) := by kernel_rfl
theorem ty64u : Tryd.prog.underlying 64 = some ty64.und := by kernel_rfl
theorem ty64i : (Tryd.prog.info? 64).map (fun x => (x.size, x.bytes, x.zero)) = some (ty64.size, ty64.bytes, some ty64.zero) := by kernel_rfl
theorem ty72u : Tryd.prog.underlying 72 = some ty72.und := by kernel_rfl
theorem ty72i : (Tryd.prog.info? 72).map (fun x => (x.size, x.bytes, x.zero)) = some (ty72.size, ty72.bytes, some ty72.zero) := by kernel_rfl
theorem ty81u : Tryd.prog.underlying 81 = some ty81.und := by kernel_rfl
theorem ty81i : (Tryd.prog.info? 81).map (fun x => (x.size, x.bytes, x.zero)) = some (ty81.size, ty81.bytes, some ty81.zero) := by kernel_rfl
theorem ty83u : Tryd.prog.underlying 83 = some ty83.und := by kernel_rfl
theorem ty83i : (Tryd.prog.info? 83).map (fun x => (x.size, x.bytes, x.zero)) = some (ty83.size, ty83.bytes, some ty83.zero) := by kernel_rfl
theorem ty85u : Tryd.prog.underlying 85 = some ty85.und := by kernel_rfl
theorem ty85i : (Tryd.prog.info? 85).map (fun x => (x.size, x.bytes, x.zero)) = some (ty85.size, ty85.bytes, some ty85.zero) := by kernel_rfl
theorem ty86u : Tryd.prog.underlying 86 = some ty86.und := by kernel_rfl
theorem ty86i : (Tryd.prog.info? 86).map (fun x => (x.size, x.bytes, x.zero)) = some (ty86.size, ty86.bytes, some ty86.zero) := by kernel_rfl
theorem ty88u : Tryd.prog.underlying 88 = some ty88.und := by kernel_rfl
theorem ty88i : (Tryd.prog.info? 88).map (fun x => (x.size, x.bytes, x.zero)) = some (ty88.size, ty88.bytes, some ty88.zero) := by kernel_rfl
theorem ty91u : Tryd.prog.underlying 91 = some ty91.und := by kernel_rfl
theorem ty91i : (Tryd.prog.info? 91).map (fun x => (x.size, x.bytes, x.zero)) = some (ty91.size, ty91.bytes, some ty91.zero) := by kernel_rfl
theorem ty93u : Tryd.prog.underlying 93 = some ty93.und := by kernel_rfl
theorem ty93i : (Tryd.prog.info? 93).map (fun x => (x.size, x.bytes, x.zero)) = some (ty93.size, ty93.bytes, some ty93.zero) := by kernel_rfl
theorem ty98u : Tryd.prog.underlying 98 = some ty98.und := by kernel_rfl
theorem ty98i : (Tryd.prog.info? 98).map (fun x => (x.size, x.bytes, x.zero)) = some (ty98.size, ty98.bytes, some ty98.zero) := by kernel_rfl
theorem ty104u : Tryd.prog.underlying 104 = some ty104.und := by kernel_rfl
theorem ty104i : (Tryd.prog.info? 104).map (fun x => (x.size, x.bytes, x.zero)) = some (ty104.size, ty104.bytes, some ty104.zero) := by kernel_rfl
theorem ty107u : Tryd.prog.underlying 107 = some ty107.und := by kernel_rfl
theorem ty107i : (Tryd.prog.info? 107).map (fun x => (x.size, x.bytes, x.zero)) = some (ty107.size, ty107.bytes, some ty107.zero) := by kernel_rfl
theorem ty116u : Tryd.prog.underlying 116 = some ty116.und := by kernel_rfl
theorem ty116i : (Tryd.prog.info? 116).map (fun x => (x.size, x.bytes, x.zero)) = some (ty116.size, ty116.bytes, some ty116.zero) := by kernel_rfl
theorem ty117u : Tryd.prog.underlying 117 = some ty117.und := by kernel_rfl
theorem ty117i : (Tryd.prog.info? 117).map (fun x => (x.size, x.bytes, x.zero)) = some (ty117.size, ty117.bytes, some ty117.zero) := by kernel_rfl
theorem ty119u : Tryd.prog.underlying 119 = some ty119.und := by kernel_rfl
theorem ty119i : (Tryd.prog.info? 119).map (fun x => (x.size, x.bytes, x.zero)) = some (ty119.size, ty119.bytes, some ty119.zero) := by kernel_rfl
theorem ty122u : Tryd.prog.underlying 122 = some ty122.und := by kernel_rfl
theorem ty122i : (Tryd.prog.info? 122).map (fun x => (x.size, x.bytes, x.zero)) = some (ty122.size, ty122.bytes, some ty122.zero) := by kernel_rfl
theorem ty124u : Tryd.prog.underlying 124 = some ty124.und := by kernel_rfl
theorem ty124i : (Tryd.prog.info? 124).map (fun x => (x.size, x.bytes, x.zero)) = some (ty124.size, ty124.bytes, some ty124.zero) := by kernel_rfl
theorem ty133u : Tryd.prog.underlying 133 = some ty133.und := by kernel_rfl
theorem ty133i : (Tryd.prog.info? 133).map (fun x => (x.size, x.bytes, x.zero)) = some (ty133.size, ty133.bytes, some ty133.zero) := by kernel_rfl
theorem ty135u : Tryd.prog.underlying 135 = some ty135.und := by kernel_rfl
theorem ty135i : (Tryd.prog.info? 135).map (fun x => (x.size, x.bytes, x.zero)) = some (ty135.size, ty135.bytes, some ty135.zero) := by kernel_rfl
theorem ty143u : Tryd.prog.underlying 143 = some ty143.und := by kernel_rfl
theorem ty143i : (Tryd.prog.info? 143).map (fun x => (x.size, x.bytes, x.zero)) = some (ty143.size, ty143.bytes, some ty143.zero) := by kernel_rfl
theorem ty146u : Tryd.prog.underlying 146 = some ty146.und := by kernel_rfl
theorem ty146i : (Tryd.prog.info? 146).map (fun x => (x.size, x.bytes, x.zero)) = some (ty146.size, ty146.bytes, some ty146.zero) := by kernel_rfl
theorem ty148u : Tryd.prog.underlying 148 = some ty148.und := by kernel_rfl
theorem ty148i : (Tryd.prog.info? 148).map (fun x => (x.size, x.bytes, x.zero)) = some (ty148.size, ty148.bytes, some ty148.zero) := by kernel_rfl
theorem ty149u : Tryd.prog.underlying 149 = some ty149.und := by kernel_rfl
theorem ty149i : (Tryd.prog.info? 149).map (fun x => (x.size, x.bytes, x.zero)) = some (ty149.size, ty149.bytes, some ty149.zero) := by kernel_rfl
theorem ty152u : Tryd.prog.underlying 152 = some ty152.und := by kernel_rfl
theorem ty152i : (Tryd.prog.info? 152).map (fun x => (x.size, x.bytes, x.zero)) = some (ty152.size, ty152.bytes, some ty152.zero) := by kernel_rfl
theorem ty165u : Tryd.prog.underlying 165 = some ty165.und := by kernel_rfl
theorem ty165i : (Tryd.prog.info? 165).map (fun x => (x.size, x.bytes, x.zero)) = some (ty165.size, ty165.bytes, some ty165.zero) := by kernel_rfl
theorem ty166u : Tryd.prog.underlying 166 = some ty166.und := by kernel_rfl
theorem ty166i : (Tryd.prog.info? 166).map (fun x => (x.size, x.bytes, x.zero)) = some (ty166.size, ty166.bytes, some ty166.zero) := by kernel_rfl
theorem ty167u : Tryd.prog.underlying 167 = some ty167.und := by kernel_rfl
theorem ty167i : (Tryd.prog.info? 167).map (fun x => (x.size, x.bytes, x.zero)) = some (ty167.size, ty167.bytes, some ty167.zero) := by kernel_rfl
theorem ty168u : Tryd.prog.underlying 168 = some ty168.und := by kernel_rfl
theorem ty168i : (Tryd.prog.info? 168).map (fun x => (x.size, x.bytes, x.zero)) = some (ty168.size, ty168.bytes, some ty168.zero) := by kernel_rfl
theorem ty169u : Tryd.prog.underlying 169 = some ty169.und := by kernel_rfl
theorem ty169i : (Tryd.prog.info? 169).map (fun x => (x.size, x.bytes, x.zero)) = some (ty169.size, ty169.bytes, some ty169.zero) := by kernel_rfl
theorem ty170u : Tryd.prog.underlying 170 = some ty170.und := by kernel_rfl
theorem ty170i : (Tryd.prog.info? 170).map (fun x => (x.size, x.bytes, x.zero)) = some (ty170.size, ty170.bytes, some ty170.zero) := by kernel_rfl
theorem ty172u : Tryd.prog.underlying 172 = some ty172.und := by kernel_rfl
theorem ty172i : (Tryd.prog.info? 172).map (fun x => (x.size, x.bytes, x.zero)) = some (ty172.size, ty172.bytes, some ty172.zero) := by kernel_rfl
theorem ty186u : Tryd.prog.underlying 186 = some ty186.und := by kernel_rfl
theorem ty186i : (Tryd.prog.info? 186).map (fun x => (x.size, x.bytes, x.zero)) = some (ty186.size, ty186.bytes, some ty186.zero) := by kernel_rfl

theorem tt_ok : TOk Tryd.prog tt := (.cons ty3u ty3i (.cons ty4u ty4i (.cons ty5u ty5i (.cons ty9u ty9i (.cons ty12u ty12i (.cons ty17u ty17i (.cons ty20u ty20i (.cons ty22u ty22i (.cons ty24u ty24i (.cons ty25u ty25i (.cons ty32u ty32i (.cons ty38u ty38i (.cons ty40u ty40i (.cons ty41u ty41i (.cons ty43u ty43i (.cons ty47u ty47i (.cons ty50u ty50i (.cons ty55u ty55i (.cons ty57u ty57i (.cons ty59u ty59i (.cons ty60u ty60i (.cons ty62u ty62i (.cons ty64u ty64i (.cons ty72u ty72i (.cons ty81u ty81i (.cons ty83u ty83i (.cons ty85u ty85i (.cons ty86u ty86i (.cons ty88u ty88i (.cons ty91u ty91i (.cons ty93u ty93i (.cons ty98u ty98i (.cons ty104u ty104i (.cons ty107u ty107i (.cons ty116u ty116i (.cons ty117u ty117i (.cons ty119u ty119i (.cons ty122u ty122i (.cons ty124u ty124i (.cons ty133u ty133i (.cons ty135u ty135i (.cons ty143u ty143i (.cons ty146u ty146i (.cons ty148u ty148i (.cons ty149u ty149i (.cons ty152u ty152i (.cons ty165u ty165i (.cons ty166u ty166i (.cons ty167u ty167i (.cons ty168u ty168i (.cons ty169u ty169i (.cons ty170u ty170i (.cons ty172u ty172i (.cons ty186u ty186i (.nil _)))))))))))))))))))))))))))))))))))))))))))))))))))))))

end Go.Proofs.YtgmopcbfgcagaaaDoor
