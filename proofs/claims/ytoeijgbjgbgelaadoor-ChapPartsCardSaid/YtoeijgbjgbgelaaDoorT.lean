/-
  The types that the program's code names, as the loaded program has them. Written by a program.
-/
import Derived.Test.YtoeijgbjgbgelaaDoorV
import Derived.Test.YtoeijgbjgbgelaaDoorProg
import Derived.KernelRfl
namespace Go.Proofs.YtoeijgbjgbgelaaDoor
open Go V

/-- int -/
def ty3 : TI := ⟨Go.TypeDesc.int (Go.IntKind.i64), 1, 8, (.int .i64 0)⟩
/-- bool -/
def ty4 : TI := ⟨Go.TypeDesc.bool, 1, 1, (.bool false)⟩
/-- uint8 -/
def ty5 : TI := ⟨Go.TypeDesc.int (Go.IntKind.u8), 1, 1, (.int .u8 0)⟩
/-- string -/
def ty9 : TI := ⟨Go.TypeDesc.string, 1, 16, (.string ByteArray.empty)⟩
/-- uintptr -/
def ty12 : TI := ⟨Go.TypeDesc.int (Go.IntKind.u64), 1, 8, (.int .u64 0)⟩
/-- *abi.Type -/
def ty17 : TI := ⟨Go.TypeDesc.pointer 131, 1, 8, (.pointer none)⟩
/-- interface {} -/
def ty20 : TI := ⟨Go.TypeDesc.interface #[], 1, 16, .nilIface⟩
/-- int32 -/
def ty21 : TI := ⟨Go.TypeDesc.int (Go.IntKind.i32), 1, 4, (.int .i32 0)⟩
/-- []uint8 -/
def ty23 : TI := ⟨Go.TypeDesc.slice 5, 1, 24, (.slice none 0 0)⟩
/-- api.Errno -/
def ty24 : TI := ⟨Go.TypeDesc.int (Go.IntKind.i64), 1, 8, (.int .i64 0)⟩
/-- [8]uint8 -/
def ty33 : TI := ⟨Go.TypeDesc.array 8 5, 8, 8, (.agg (Array.replicate 8 (.int .u8 0)))⟩
/-- [16]uint8 -/
def ty34 : TI := ⟨Go.TypeDesc.array 16 5, 16, 16, (.agg (Array.replicate 16 (.int .u8 0)))⟩
/-- uint16 -/
def ty35 : TI := ⟨Go.TypeDesc.int (Go.IntKind.u16), 1, 2, (.int .u16 0)⟩
/-- uint -/
def ty37 : TI := ⟨Go.TypeDesc.int (Go.IntKind.u64), 1, 8, (.int .u64 0)⟩
/-- error -/
def ty40 : TI := ⟨Go.TypeDesc.interface #[("Error", 117)], 1, 16, .nilIface⟩
/-- uint32 -/
def ty44 : TI := ⟨Go.TypeDesc.int (Go.IntKind.u32), 1, 4, (.int .u32 0)⟩
/-- []uint32 -/
def ty45 : TI := ⟨Go.TypeDesc.slice 44, 1, 24, (.slice none 0 0)⟩
/-- []int -/
def ty47 : TI := ⟨Go.TypeDesc.slice 3, 1, 24, (.slice none 0 0)⟩
/-- *api.Fault -/
def ty52 : TI := ⟨Go.TypeDesc.pointer 56, 1, 8, (.pointer none)⟩
/-- **api.Fault -/
def ty54 : TI := ⟨Go.TypeDesc.pointer 52, 1, 8, (.pointer none)⟩
/-- api.Fault -/
def ty56 : TI := ⟨Go.TypeDesc.struct   #[{ name := "Layer", type := 9, offset := 0, embedded := false, tag := "", pkgPath := "", byteOffset := 0 },     { name := "E", type := 24, offset := 1, embedded := false, tag := "", pkgPath := "", byteOffset := 16 }], 2, 24, (.agg #[(.string ByteArray.empty), (.int .i64 0)])⟩
/-- uint64 -/
def ty59 : TI := ⟨Go.TypeDesc.int (Go.IntKind.u64), 1, 8, (.int .u64 0)⟩
/-- *md4.state -/
def ty64 : TI := ⟨Go.TypeDesc.pointer 66, 1, 8, (.pointer none)⟩
/-- md4.state -/
def ty66 : TI := ⟨Go.TypeDesc.array 4 44, 4, 16, (.agg (Array.replicate 4 (.int .u32 0)))⟩
/-- unsafe.Pointer -/
def ty68 : TI := ⟨Go.TypeDesc.unsafePointer, 1, 8, (.pointer none)⟩
/-- reflectlite.flag -/
def ty69 : TI := ⟨Go.TypeDesc.int (Go.IntKind.u64), 1, 8, (.int .u64 0)⟩
/-- reflectlite.Value -/
def ty71 : TI := ⟨Go.TypeDesc.struct   #[{ name := "typ_",       type := 17,       offset := 0,       embedded := false,       tag := "",       pkgPath := "internal/reflectlite",       byteOffset := 0 },     { name := "ptr",       type := 68,       offset := 1,       embedded := false,       tag := "",       pkgPath := "internal/reflectlite",       byteOffset := 8 },     { name := "flag",       type := 69,       offset := 2,       embedded := true,       tag := "",       pkgPath := "internal/reflectlite",       byteOffset := 16 }], 3, 24, (.agg #[(.pointer none), (.pointer none), (.int .u64 0)])⟩
/-- reflectlite.Type -/
def ty74 : TI := ⟨Go.TypeDesc.interface   #[("AssignableTo", 78), ("Comparable", 22), ("Elem", 75), ("Implements", 78), ("Kind", 77), ("Name", 117),     ("PkgPath", 117), ("Size", 132), ("String", 117), ("internal/reflectlite.common", 124),     ("internal/reflectlite.uncommon", 133)], 1, 16, .nilIface⟩
/-- abi.Kind -/
def ty76 : TI := ⟨Go.TypeDesc.int (Go.IntKind.u8), 1, 1, (.int .u8 0)⟩
/-- [][]uint8 -/
def ty80 : TI := ⟨Go.TypeDesc.slice 23, 1, 24, (.slice none 0 0)⟩
/-- func(int) int -/
def ty82 : TI := ⟨Go.TypeDesc.func #[3] #[3] false, 1, 8, .nilFunc⟩
/-- [16]uint32 -/
def ty86 : TI := ⟨Go.TypeDesc.array 16 44, 16, 64, (.agg (Array.replicate 16 (.int .u32 0)))⟩
/-- func(uint32, uint32, uint32) uint32 -/
def ty87 : TI := ⟨Go.TypeDesc.func #[44, 44, 44] #[44] false, 1, 8, .nilFunc⟩
/-- interface { As(interface {}) bool } -/
def ty98 : TI := ⟨Go.TypeDesc.interface #[("As", 100)], 1, 16, .nilIface⟩
/-- interface { Unwrap() error } -/
def ty101 : TI := ⟨Go.TypeDesc.interface #[("Unwrap", 102)], 1, 16, .nilIface⟩
/-- interface { Unwrap() []error } -/
def ty103 : TI := ⟨Go.TypeDesc.interface #[("Unwrap", 105)], 1, 16, .nilIface⟩
/-- []error -/
def ty104 : TI := ⟨Go.TypeDesc.slice 40, 1, 24, (.slice none 0 0)⟩
/-- [8]int -/
def ty106 : TI := ⟨Go.TypeDesc.array 8 3, 8, 64, (.agg (Array.replicate 8 (.int .i64 0)))⟩
/-- [256]uint8 -/
def ty111 : TI := ⟨Go.TypeDesc.array 256 5, 256, 256, (.agg (Array.replicate 256 (.int .u8 0)))⟩
/-- utf8.acceptRange -/
def ty113 : TI := ⟨Go.TypeDesc.struct   #[{ name := "lo", type := 5, offset := 0, embedded := false, tag := "", pkgPath := "unicode/utf8", byteOffset := 0 },     { name := "hi", type := 5, offset := 1, embedded := false, tag := "", pkgPath := "unicode/utf8", byteOffset := 1 }], 2, 2, (.agg (Array.replicate 2 (.int .u8 0)))⟩
/-- [16]utf8.acceptRange -/
def ty114 : TI := ⟨Go.TypeDesc.array 16 113, 32, 32, (.agg (Array.replicate 32 (.int .u8 0)))⟩
/-- [4]int -/
def ty115 : TI := ⟨Go.TypeDesc.array 4 3, 4, 32, (.agg (Array.replicate 4 (.int .i64 0)))⟩
/-- [3][4]int -/
def ty116 : TI := ⟨Go.TypeDesc.array 3 115, 12, 96, (.agg (Array.replicate 12 (.int .i64 0)))⟩
/-- abi.TFlag -/
def ty125 : TI := ⟨Go.TypeDesc.int (Go.IntKind.u8), 1, 1, (.int .u8 0)⟩
/-- func(unsafe.Pointer, unsafe.Pointer) bool -/
def ty126 : TI := ⟨Go.TypeDesc.func #[68, 68] #[4] false, 1, 8, .nilFunc⟩
/-- *uint8 -/
def ty127 : TI := ⟨Go.TypeDesc.pointer 5, 1, 8, (.pointer none)⟩
/-- abi.NameOff -/
def ty128 : TI := ⟨Go.TypeDesc.int (Go.IntKind.i32), 1, 4, (.int .i32 0)⟩
/-- abi.TypeOff -/
def ty129 : TI := ⟨Go.TypeDesc.int (Go.IntKind.i32), 1, 4, (.int .i32 0)⟩
/-- abi.Type -/
def ty131 : TI := ⟨Go.TypeDesc.struct   #[{ name := "Size_", type := 12, offset := 0, embedded := false, tag := "", pkgPath := "", byteOffset := 0 },     { name := "PtrBytes", type := 12, offset := 1, embedded := false, tag := "", pkgPath := "", byteOffset := 8 },     { name := "Hash", type := 44, offset := 2, embedded := false, tag := "", pkgPath := "", byteOffset := 16 },     { name := "TFlag", type := 125, offset := 3, embedded := false, tag := "", pkgPath := "", byteOffset := 20 },     { name := "Align_", type := 5, offset := 4, embedded := false, tag := "", pkgPath := "", byteOffset := 21 },     { name := "FieldAlign_", type := 5, offset := 5, embedded := false, tag := "", pkgPath := "", byteOffset := 22 },     { name := "Kind_", type := 76, offset := 6, embedded := false, tag := "", pkgPath := "", byteOffset := 23 },     { name := "Equal", type := 126, offset := 7, embedded := false, tag := "", pkgPath := "", byteOffset := 24 },     { name := "GCData", type := 127, offset := 8, embedded := false, tag := "", pkgPath := "", byteOffset := 32 },     { name := "Str", type := 128, offset := 9, embedded := false, tag := "", pkgPath := "", byteOffset := 40 },     { name := "PtrToThis", type := 129, offset := 10, embedded := false, tag := "", pkgPath := "", byteOffset := 44 }], 11, 48, (.agg #[(.int .u64 0), (.int .u64 0), (.int .u32 0), (.int .u8 0), (.int .u8 0), (.int .u8 0), (.int .u8 0), .nilFunc, (.pointer none), (.int .i32 0), (.int .i32 0)])⟩
/-- *error -/
def ty144 : TI := ⟨Go.TypeDesc.pointer 40, 1, 8, (.pointer none)⟩

def tt : TT := [(3, ty3), (4, ty4), (5, ty5), (9, ty9), (12, ty12), (17, ty17), (20, ty20), (21, ty21), (23, ty23), (24, ty24), (33, ty33), (34, ty34), (35, ty35), (37, ty37), (40, ty40), (44, ty44), (45, ty45), (47, ty47), (52, ty52), (54, ty54), (56, ty56), (59, ty59), (64, ty64), (66, ty66), (68, ty68), (69, ty69), (71, ty71), (74, ty74), (76, ty76), (80, ty80), (82, ty82), (86, ty86), (87, ty87), (98, ty98), (101, ty101), (103, ty103), (104, ty104), (106, ty106), (111, ty111), (113, ty113), (114, ty114), (115, ty115), (116, ty116), (125, ty125), (126, ty126), (127, ty127), (128, ty128), (129, ty129), (131, ty131), (144, ty144)]

theorem ty3u : Tryd.prog.underlying 3 = some ty3.und := by kernel_rfl
theorem ty3i : (Tryd.prog.info? 3).map (fun x => (x.size, x.bytes, x.zero)) = some (ty3.size, ty3.bytes, some ty3.zero) := by kernel_rfl
theorem ty4u : Tryd.prog.underlying 4 = some ty4.und := by kernel_rfl
theorem ty4i : (Tryd.prog.info? 4).map (fun x => (x.size, x.bytes, x.zero)) = some (ty4.size, ty4.bytes, some ty4.zero) := by kernel_rfl
theorem ty5u : Tryd.prog.underlying 5 = some ty5.und := by kernel_rfl
theorem ty5i : (Tryd.prog.info? 5).map (fun x => (x.size, x.bytes, x.zero)) = some (ty5.size, ty5.bytes, some ty5.zero) := by kernel_rfl
theorem ty9u : Tryd.prog.underlying 9 = some ty9.und := by kernel_rfl
theorem ty9i : (Tryd.prog.info? 9).map (fun x => (x.size, x.bytes, x.zero)) = some (ty9.size, ty9.bytes, some ty9.zero) := by kernel_rfl
theorem ty12u : Tryd.prog.underlying 12 = some ty12.und := by kernel_rfl
theorem ty12i : (Tryd.prog.info? 12).map (fun x => (x.size, x.bytes, x.zero)) = some (ty12.size, ty12.bytes, some ty12.zero) := by kernel_rfl
theorem ty17u : Tryd.prog.underlying 17 = some ty17.und := by kernel_rfl
theorem ty17i : (Tryd.prog.info? 17).map (fun x => (x.size, x.bytes, x.zero)) = some (ty17.size, ty17.bytes, some ty17.zero) := by kernel_rfl
theorem ty20u : Tryd.prog.underlying 20 = some ty20.und := by kernel_rfl
theorem ty20i : (Tryd.prog.info? 20).map (fun x => (x.size, x.bytes, x.zero)) = some (ty20.size, ty20.bytes, some ty20.zero) := by kernel_rfl
theorem ty21u : Tryd.prog.underlying 21 = some ty21.und := by kernel_rfl
theorem ty21i : (Tryd.prog.info? 21).map (fun x => (x.size, x.bytes, x.zero)) = some (ty21.size, ty21.bytes, some ty21.zero) := by kernel_rfl
theorem ty23u : Tryd.prog.underlying 23 = some ty23.und := by kernel_rfl
theorem ty23i : (Tryd.prog.info? 23).map (fun x => (x.size, x.bytes, x.zero)) = some (ty23.size, ty23.bytes, some ty23.zero) := by kernel_rfl
theorem ty24u : Tryd.prog.underlying 24 = some ty24.und := by kernel_rfl
theorem ty24i : (Tryd.prog.info? 24).map (fun x => (x.size, x.bytes, x.zero)) = some (ty24.size, ty24.bytes, some ty24.zero) := by kernel_rfl
theorem ty33u : Tryd.prog.underlying 33 = some ty33.und := by kernel_rfl
theorem ty33i : (Tryd.prog.info? 33).map (fun x => (x.size, x.bytes, x.zero)) = some (ty33.size, ty33.bytes, some ty33.zero) := by kernel_rfl
theorem ty34u : Tryd.prog.underlying 34 = some ty34.und := by kernel_rfl
theorem ty34i : (Tryd.prog.info? 34).map (fun x => (x.size, x.bytes, x.zero)) = some (ty34.size, ty34.bytes, some ty34.zero) := by kernel_rfl
theorem ty35u : Tryd.prog.underlying 35 = some ty35.und := by kernel_rfl
theorem ty35i : (Tryd.prog.info? 35).map (fun x => (x.size, x.bytes, x.zero)) = some (ty35.size, ty35.bytes, some ty35.zero) := by kernel_rfl
theorem ty37u : Tryd.prog.underlying 37 = some ty37.und := by kernel_rfl
theorem ty37i : (Tryd.prog.info? 37).map (fun x => (x.size, x.bytes, x.zero)) = some (ty37.size, ty37.bytes, some ty37.zero) := by kernel_rfl
theorem ty40u : Tryd.prog.underlying 40 = some ty40.und := by kernel_rfl
theorem ty40i : (Tryd.prog.info? 40).map (fun x => (x.size, x.bytes, x.zero)) = some (ty40.size, ty40.bytes, some ty40.zero) := by kernel_rfl
theorem ty44u : Tryd.prog.underlying 44 = some ty44.und := by kernel_rfl
theorem ty44i : (Tryd.prog.info? 44).map (fun x => (x.size, x.bytes, x.zero)) = some (ty44.size, ty44.bytes, some ty44.zero) := by kernel_rfl
theorem ty45u : Tryd.prog.underlying 45 = some ty45.und := by kernel_rfl
theorem ty45i : (Tryd.prog.info? 45).map (fun x => (x.size, x.bytes, x.zero)) = some (ty45.size, ty45.bytes, some ty45.zero) := by kernel_rfl
theorem ty47u : Tryd.prog.underlying 47 = some ty47.und := by kernel_rfl
theorem ty47i : (Tryd.prog.info? 47).map (fun x => (x.size, x.bytes, x.zero)) = some (ty47.size, ty47.bytes, some ty47.zero) := by kernel_rfl
theorem ty52u : Tryd.prog.underlying 52 = some ty52.und := by kernel_rfl
theorem ty52i : (Tryd.prog.info? 52).map (fun x => (x.size, x.bytes, x.zero)) = some (ty52.size, ty52.bytes, some ty52.zero) := by kernel_rfl
theorem ty54u : Tryd.prog.underlying 54 = some ty54.und := by kernel_rfl
theorem ty54i : (Tryd.prog.info? 54).map (fun x => (x.size, x.bytes, x.zero)) = some (ty54.size, ty54.bytes, some ty54.zero) := by kernel_rfl
theorem ty56u : Tryd.prog.underlying 56 = some ty56.und := by kernel_rfl
theorem ty56i : (Tryd.prog.info? 56).map (fun x => (x.size, x.bytes, x.zero)) = some (ty56.size, ty56.bytes, some ty56.zero) := by kernel_rfl
theorem ty59u : Tryd.prog.underlying 59 = some ty59.und := by kernel_rfl
theorem ty59i : (Tryd.prog.info? 59).map (fun x => (x.size, x.bytes, x.zero)) = some (ty59.size, ty59.bytes, some ty59.zero) := by kernel_rfl
theorem ty64u : Tryd.prog.underlying 64 = some ty64.und := by kernel_rfl
theorem ty64i : (Tryd.prog.info? 64).map (fun x => (x.size, x.bytes, x.zero)) = some (ty64.size, ty64.bytes, some ty64.zero) := by kernel_rfl
theorem ty66u : Tryd.prog.underlying 66 = some ty66.und := by kernel_rfl
theorem ty66i : (Tryd.prog.info? 66).map (fun x => (x.size, x.bytes, x.zero)) = some (ty66.size, ty66.bytes, some ty66.zero) := by kernel_rfl
theorem ty68u : Tryd.prog.underlying 68 = some ty68.und := by kernel_rfl
theorem ty68i : (Tryd.prog.info? 68).map (fun x => (x.size, x.bytes, x.zero)) = some (ty68.size, ty68.bytes, some ty68.zero) := by kernel_rfl
theorem ty69u : Tryd.prog.underlying 69 = some ty69.und := by kernel_rfl
theorem ty69i : (Tryd.prog.info? 69).map (fun x => (x.size, x.bytes, x.zero)) = some (ty69.size, ty69.bytes, some ty69.zero) := by kernel_rfl
theorem ty71u : Tryd.prog.underlying 71 = some ty71.und := by kernel_rfl
theorem ty71i : (Tryd.prog.info? 71).map (fun x => (x.size, x.bytes, x.zero)) = some (ty71.size, ty71.bytes, some ty71.zero) := by kernel_rfl
theorem ty74u : Tryd.prog.underlying 74 = some ty74.und := by kernel_rfl
theorem ty74i : (Tryd.prog.info? 74).map (fun x => (x.size, x.bytes, x.zero)) = some (ty74.size, ty74.bytes, some ty74.zero) := by kernel_rfl
theorem ty76u : Tryd.prog.underlying 76 = some ty76.und := by kernel_rfl
theorem ty76i : (Tryd.prog.info? 76).map (fun x => (x.size, x.bytes, x.zero)) = some (ty76.size, ty76.bytes, some ty76.zero) := by kernel_rfl
theorem ty80u : Tryd.prog.underlying 80 = some ty80.und := by kernel_rfl
theorem ty80i : (Tryd.prog.info? 80).map (fun x => (x.size, x.bytes, x.zero)) = some (ty80.size, ty80.bytes, some ty80.zero) := by kernel_rfl
theorem ty82u : Tryd.prog.underlying 82 = some ty82.und := by kernel_rfl
theorem ty82i : (Tryd.prog.info? 82).map (fun x => (x.size, x.bytes, x.zero)) = some (ty82.size, ty82.bytes, some ty82.zero) := by kernel_rfl
theorem ty86u : Tryd.prog.underlying 86 = some ty86.und := by kernel_rfl
theorem ty86i : (Tryd.prog.info? 86).map (fun x => (x.size, x.bytes, x.zero)) = some (ty86.size, ty86.bytes, some ty86.zero) := by kernel_rfl
theorem ty87u : Tryd.prog.underlying 87 = some ty87.und := by kernel_rfl
theorem ty87i : (Tryd.prog.info? 87).map (fun x => (x.size, x.bytes, x.zero)) = some (ty87.size, ty87.bytes, some ty87.zero) := by kernel_rfl
theorem ty98u : Tryd.prog.underlying 98 = some ty98.und := by kernel_rfl
theorem ty98i : (Tryd.prog.info? 98).map (fun x => (x.size, x.bytes, x.zero)) = some (ty98.size, ty98.bytes, some ty98.zero) := by kernel_rfl
theorem ty101u : Tryd.prog.underlying 101 = some ty101.und := by kernel_rfl
theorem ty101i : (Tryd.prog.info? 101).map (fun x => (x.size, x.bytes, x.zero)) = some (ty101.size, ty101.bytes, some ty101.zero) := by kernel_rfl
theorem ty103u : Tryd.prog.underlying 103 = some ty103.und := by kernel_rfl
theorem ty103i : (Tryd.prog.info? 103).map (fun x => (x.size, x.bytes, x.zero)) = some (ty103.size, ty103.bytes, some ty103.zero) := by kernel_rfl
theorem ty104u : Tryd.prog.underlying 104 = some ty104.und := by kernel_rfl
theorem ty104i : (Tryd.prog.info? 104).map (fun x => (x.size, x.bytes, x.zero)) = some (ty104.size, ty104.bytes, some ty104.zero) := by kernel_rfl
theorem ty106u : Tryd.prog.underlying 106 = some ty106.und := by kernel_rfl
theorem ty106i : (Tryd.prog.info? 106).map (fun x => (x.size, x.bytes, x.zero)) = some (ty106.size, ty106.bytes, some ty106.zero) := by kernel_rfl
theorem ty111u : Tryd.prog.underlying 111 = some ty111.und := by kernel_rfl
theorem ty111i : (Tryd.prog.info? 111).map (fun x => (x.size, x.bytes, x.zero)) = some (ty111.size, ty111.bytes, some ty111.zero) := by kernel_rfl
theorem ty113u : Tryd.prog.underlying 113 = some ty113.und := by kernel_rfl
theorem ty113i : (Tryd.prog.info? 113).map (fun x => (x.size, x.bytes, x.zero)) = some (ty113.size, ty113.bytes, some ty113.zero) := by kernel_rfl
theorem ty114u : Tryd.prog.underlying 114 = some ty114.und := by kernel_rfl
theorem ty114i : (Tryd.prog.info? 114).map (fun x => (x.size, x.bytes, x.zero)) = some (ty114.size, ty114.bytes, some ty114.zero) := by kernel_rfl
theorem ty115u : Tryd.prog.underlying 115 = some ty115.und := by kernel_rfl
theorem ty115i : (Tryd.prog.info? 115).map (fun x => (x.size, x.bytes, x.zero)) = some (ty115.size, ty115.bytes, some ty115.zero) := by kernel_rfl
theorem ty116u : Tryd.prog.underlying 116 = some ty116.und := by kernel_rfl
theorem ty116i : (Tryd.prog.info? 116).map (fun x => (x.size, x.bytes, x.zero)) = some (ty116.size, ty116.bytes, some ty116.zero) := by kernel_rfl
theorem ty125u : Tryd.prog.underlying 125 = some ty125.und := by kernel_rfl
theorem ty125i : (Tryd.prog.info? 125).map (fun x => (x.size, x.bytes, x.zero)) = some (ty125.size, ty125.bytes, some ty125.zero) := by kernel_rfl
theorem ty126u : Tryd.prog.underlying 126 = some ty126.und := by kernel_rfl
theorem ty126i : (Tryd.prog.info? 126).map (fun x => (x.size, x.bytes, x.zero)) = some (ty126.size, ty126.bytes, some ty126.zero) := by kernel_rfl
theorem ty127u : Tryd.prog.underlying 127 = some ty127.und := by kernel_rfl
theorem ty127i : (Tryd.prog.info? 127).map (fun x => (x.size, x.bytes, x.zero)) = some (ty127.size, ty127.bytes, some ty127.zero) := by kernel_rfl
theorem ty128u : Tryd.prog.underlying 128 = some ty128.und := by kernel_rfl
theorem ty128i : (Tryd.prog.info? 128).map (fun x => (x.size, x.bytes, x.zero)) = some (ty128.size, ty128.bytes, some ty128.zero) := by kernel_rfl
theorem ty129u : Tryd.prog.underlying 129 = some ty129.und := by kernel_rfl
theorem ty129i : (Tryd.prog.info? 129).map (fun x => (x.size, x.bytes, x.zero)) = some (ty129.size, ty129.bytes, some ty129.zero) := by kernel_rfl
theorem ty131u : Tryd.prog.underlying 131 = some ty131.und := by kernel_rfl
theorem ty131i : (Tryd.prog.info? 131).map (fun x => (x.size, x.bytes, x.zero)) = some (ty131.size, ty131.bytes, some ty131.zero) := by kernel_rfl
theorem ty144u : Tryd.prog.underlying 144 = some ty144.und := by kernel_rfl
theorem ty144i : (Tryd.prog.info? 144).map (fun x => (x.size, x.bytes, x.zero)) = some (ty144.size, ty144.bytes, some ty144.zero) := by kernel_rfl

theorem tt_ok : TOk Tryd.prog tt := (.cons ty3u ty3i (.cons ty4u ty4i (.cons ty5u ty5i (.cons ty9u ty9i (.cons ty12u ty12i (.cons ty17u ty17i (.cons ty20u ty20i (.cons ty21u ty21i (.cons ty23u ty23i (.cons ty24u ty24i (.cons ty33u ty33i (.cons ty34u ty34i (.cons ty35u ty35i (.cons ty37u ty37i (.cons ty40u ty40i (.cons ty44u ty44i (.cons ty45u ty45i (.cons ty47u ty47i (.cons ty52u ty52i (.cons ty54u ty54i (.cons ty56u ty56i (.cons ty59u ty59i (.cons ty64u ty64i (.cons ty66u ty66i (.cons ty68u ty68i (.cons ty69u ty69i (.cons ty71u ty71i (.cons ty74u ty74i (.cons ty76u ty76i (.cons ty80u ty80i (.cons ty82u ty82i (.cons ty86u ty86i (.cons ty87u ty87i (.cons ty98u ty98i (.cons ty101u ty101i (.cons ty103u ty103i (.cons ty104u ty104i (.cons ty106u ty106i (.cons ty111u ty111i (.cons ty113u ty113i (.cons ty114u ty114i (.cons ty115u ty115i (.cons ty116u ty116i (.cons ty125u ty125i (.cons ty126u ty126i (.cons ty127u ty127i (.cons ty128u ty128i (.cons ty129u ty129i (.cons ty131u ty131i (.cons ty144u ty144i (.nil _)))))))))))))))))))))))))))))))))))))))))))))))))))

end Go.Proofs.YtoeijgbjgbgelaaDoor
