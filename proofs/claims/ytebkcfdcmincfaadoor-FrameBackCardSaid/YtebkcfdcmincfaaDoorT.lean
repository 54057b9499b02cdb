/-
  The types that the program's code names, as the loaded program has them. Written by a program.
-/
import Derived.Test.YtebkcfdcmincfaaDoorV
import Derived.Test.YtebkcfdcmincfaaDoorProg
import Derived.KernelRfl
namespace Go.Proofs.YtebkcfdcmincfaaDoor
open Go V

/-- int -/
def ty3 : TI := ⟨Go.TypeDesc.int (Go.IntKind.i64), 1, 8, (.int .i64 0)⟩
/-- bool -/
def ty4 : TI := ⟨Go.TypeDesc.bool, 1, 1, (.bool false)⟩
/-- uint8 -/
def ty5 : TI := ⟨Go.TypeDesc.int (Go.IntKind.u8), 1, 1, (.int .u8 0)⟩
/-- string -/
def ty9 : TI := ⟨Go.TypeDesc.string, 1, 16, (.string ByteArray.empty)⟩
/-- uintptr -/
def ty12 : TI := ⟨Go.TypeDesc.int (Go.IntKind.u64), 1, 8, (.int .u64 0)⟩
/-- *abi.Type -/
def ty17 : TI := ⟨Go.TypeDesc.pointer 121, 1, 8, (.pointer none)⟩
/-- interface {} -/
def ty20 : TI := ⟨Go.TypeDesc.interface #[], 1, 16, .nilIface⟩
/-- api.Form -/
def ty24 : TI := ⟨Go.TypeDesc.struct   #[{ name := "Acfc", type := 4, offset := 0, embedded := false, tag := "", pkgPath := "", byteOffset := 0 },     { name := "Pfc", type := 4, offset := 1, embedded := false, tag := "", pkgPath := "", byteOffset := 1 }], 2, 2, (.agg (Array.replicate 2 (.bool false)))⟩
/-- []uint8 -/
def ty25 : TI := ⟨Go.TypeDesc.slice 5, 1, 24, (.slice none 0 0)⟩
/-- api.Errno -/
def ty26 : TI := ⟨Go.TypeDesc.int (Go.IntKind.i64), 1, 8, (.int .i64 0)⟩
/-- uint16 -/
def ty39 : TI := ⟨Go.TypeDesc.int (Go.IntKind.u16), 1, 2, (.int .u16 0)⟩
/-- []api.Form -/
def ty40 : TI := ⟨Go.TypeDesc.slice 24, 1, 24, (.slice none 0 0)⟩
/-- uint32 -/
def ty42 : TI := ⟨Go.TypeDesc.int (Go.IntKind.u32), 1, 4, (.int .u32 0)⟩
/-- fairleadlaw4.Wired -/
def ty44 : TI := ⟨Go.TypeDesc.struct   #[{ name := "Form", type := 24, offset := 0, embedded := false, tag := "", pkgPath := "", byteOffset := 0 },     { name := "Accm", type := 42, offset := 2, embedded := false, tag := "", pkgPath := "", byteOffset := 4 }], 3, 8, (.agg #[(.bool false), (.bool false), (.int .u32 0)])⟩
/-- *stuff.Deframer -/
def ty48 : TI := ⟨Go.TypeDesc.pointer 65, 1, 8, (.pointer none)⟩
/-- [][]uint8 -/
def ty51 : TI := ⟨Go.TypeDesc.slice 25, 1, 24, (.slice none 0 0)⟩
/-- func([]uint8) []uint8 -/
def ty53 : TI := ⟨Go.TypeDesc.func #[25] #[25] false, 1, 8, .nilFunc⟩
/-- uint -/
def ty54 : TI := ⟨Go.TypeDesc.int (Go.IntKind.u64), 1, 8, (.int .u64 0)⟩
/-- error -/
def ty57 : TI := ⟨Go.TypeDesc.interface #[("Error", 107)], 1, 16, .nilIface⟩
/-- stuff.Deframer -/
def ty65 : TI := ⟨Go.TypeDesc.struct   #[{ name := "accm",       type := 42,       offset := 0,       embedded := false,       tag := "",       pkgPath := "fairlead/stuff",       byteOffset := 0 },     { name := "most",       type := 3,       offset := 1,       embedded := false,       tag := "",       pkgPath := "fairlead/stuff",       byteOffset := 8 },     { name := "b",       type := 25,       offset := 2,       embedded := false,       tag := "",       pkgPath := "fairlead/stuff",       byteOffset := 16 },     { name := "long",       type := 4,       offset := 3,       embedded := false,       tag := "",       pkgPath := "fairlead/stuff",       byteOffset := 40 },     { name := "escaped",       type := 4,       offset := 4,       embedded := false,       tag := "",       pkgPath := "fairlead/stuff",       byteOffset := 41 },     { name := "dropped",       type := 3,       offset := 5,       embedded := false,       tag := "",       pkgPath := "fairlead/stuff",       byteOffset := 48 }], 6, 56, (.agg #[(.int .u32 0), (.int .i64 0), (.slice none 0 0), (.bool false), (.bool false), (.int .i64 0)])⟩
/-- *api.Fault -/
def ty70 : TI := ⟨Go.TypeDesc.pointer 74, 1, 8, (.pointer none)⟩
/-- **api.Fault -/
def ty72 : TI := ⟨Go.TypeDesc.pointer 70, 1, 8, (.pointer none)⟩
/-- api.Fault -/
def ty74 : TI := ⟨Go.TypeDesc.struct   #[{ name := "Layer", type := 9, offset := 0, embedded := false, tag := "", pkgPath := "", byteOffset := 0 },     { name := "E", type := 26, offset := 1, embedded := false, tag := "", pkgPath := "", byteOffset := 16 }], 2, 24, (.agg #[(.string ByteArray.empty), (.int .i64 0)])⟩
/-- unsafe.Pointer -/
def ty79 : TI := ⟨Go.TypeDesc.unsafePointer, 1, 8, (.pointer none)⟩
/-- reflectlite.flag -/
def ty80 : TI := ⟨Go.TypeDesc.int (Go.IntKind.u64), 1, 8, (.int .u64 0)⟩
/-- reflectlite.Value -/
def ty82 : TI := ⟨Go.TypeDesc.struct   #[{ name := "typ_",       type := 17,       offset := 0,       embedded := false,       tag := "",       pkgPath := "internal/reflectlite",       byteOffset := 0 },     { name := "ptr",       type := 79,       offset := 1,       embedded := false,       tag := "",       pkgPath := "internal/reflectlite",       byteOffset := 8 },     { name := "flag",       type := 80,       offset := 2,       embedded := true,       tag := "",       pkgPath := "internal/reflectlite",       byteOffset := 16 }], 3, 24, (.agg #[(.pointer none), (.pointer none), (.int .u64 0)])⟩
/-- reflectlite.Type -/
def ty85 : TI := ⟨Go.TypeDesc.interface   #[("AssignableTo", 89), ("Comparable", 22), ("Elem", 86), ("Implements", 89), ("Kind", 88), ("Name", 107),     ("PkgPath", 107), ("Size", 122), ("String", 107), ("internal/reflectlite.common", 114),     ("internal/reflectlite.uncommon", 123)], 1, 16, .nilIface⟩
/-- abi.Kind -/
def ty87 : TI := ⟨Go.TypeDesc.int (Go.IntKind.u8), 1, 1, (.int .u8 0)⟩
/-- interface { As(interface {}) bool } -/
def ty99 : TI := ⟨Go.TypeDesc.interface #[("As", 101)], 1, 16, .nilIface⟩
/-- interface { Unwrap() error } -/
def ty102 : TI := ⟨Go.TypeDesc.interface #[("Unwrap", 103)], 1, 16, .nilIface⟩
/-- interface { Unwrap() []error } -/
def ty104 : TI := ⟨Go.TypeDesc.interface #[("Unwrap", 106)], 1, 16, .nilIface⟩
/-- []error -/
def ty105 : TI := ⟨Go.TypeDesc.slice 57, 1, 24, (.slice none 0 0)⟩
/-- abi.TFlag -/
def ty115 : TI := ⟨Go.TypeDesc.int (Go.IntKind.u8), 1, 1, (.int .u8 0)⟩
/-- func(unsafe.Pointer, unsafe.Pointer) bool -/
def ty116 : TI := ⟨Go.TypeDesc.func #[79, 79] #[4] false, 1, 8, .nilFunc⟩
/-- *uint8 -/
def ty117 : TI := ⟨Go.TypeDesc.pointer 5, 1, 8, (.pointer none)⟩
/-- abi.NameOff -/
def ty118 : TI := ⟨Go.TypeDesc.int (Go.IntKind.i32), 1, 4, (.int .i32 0)⟩
/-- abi.TypeOff -/
def ty119 : TI := ⟨Go.TypeDesc.int (Go.IntKind.i32), 1, 4, (.int .i32 0)⟩
/-- abi.Type -/
def ty121 : TI := ⟨Go.TypeDesc.struct   #[{ name := "Size_", type := 12, offset := 0, embedded := false, tag := "", pkgPath := "", byteOffset := 0 },     { name := "PtrBytes", type := 12, offset := 1, embedded := false, tag := "", pkgPath := "", byteOffset := 8 },     { name := "Hash", type := 42, offset := 2, embedded := false, tag := "", pkgPath := "", byteOffset := 16 },     { name := "TFlag", type := 115, offset := 3, embedded := false, tag := "", pkgPath := "", byteOffset := 20 },     { name := "Align_", type := 5, offset := 4, embedded := false, tag := "", pkgPath := "", byteOffset := 21 },     { name := "FieldAlign_", type := 5, offset := 5, embedded := false, tag := "", pkgPath := "", byteOffset := 22 },     { name := "Kind_", type := 87, offset := 6, embedded := false, tag := "", pkgPath := "", byteOffset := 23 },     { name := "Equal", type := 116, offset := 7, embedded := false, tag := "", pkgPath := "", byteOffset := 24 },     { name := "GCData", type := 117, offset := 8, embedded := false, tag := "", pkgPath := "", byteOffset := 32 },     { name := "Str", type := 118, offset := 9, embedded := false, tag := "", pkgPath := "", byteOffset := 40 },     { name := "PtrToThis", type := 119, offset := 10, embedded := false, tag := "", pkgPath := "", byteOffset := 44 }], 11, 48, (.agg #[(.int .u64 0), (.int .u64 0), (.int .u32 0), (.int .u8 0), (.int .u8 0), (.int .u8 0), (.int .u8 0), .nilFunc, (.pointer none), (.int .i32 0), (.int .i32 0)])⟩
/-- *error -/
def ty134 : TI := ⟨Go.TypeDesc.pointer 57, 1, 8, (.pointer none)⟩

def tt : TT := [(3, ty3), (4, ty4), (5, ty5), (9, ty9), (12, ty12), (17, ty17), (20, ty20), (24, ty24), (25, ty25), (26, ty26), (39, ty39), (40, ty40), (42, ty42), (44, ty44), (48, ty48), (51, ty51), (53, ty53), (54, ty54), (57, ty57), (65, ty65), (70, ty70), (72, ty72), (74, ty74), (79, ty79), (80, ty80), (82, ty82), (85, ty85), (87, ty87), (99, ty99), (102, ty102), (104, ty104), (105, ty105), (115, ty115), (116, ty116), (117, ty117), (118, ty118), (119, ty119), (121, ty121), (134, ty134)]

theorem ty3u : Tryd.prog.underlying 3 = some ty3.und := by kernel_rfl
theorem ty3i : (Tryd.prog.info? 3).map (fun x => (x.size, x.bytes, x.zero)) = some (ty3.size, ty3.bytes, some ty3.zero) := by kernel_rfl
theorem ty4u : Tryd.prog.underlying 4 = some ty4.und := by kernel_rfl
theorem ty4i : (Tryd.prog.info? 4).map (fun x => (x.size, x.bytes, x.zero)) = some (ty4.size, ty4.bytes, some ty4.zero) := by kernel_rfl
theorem ty5u : Tryd.prog.underlying 5 = some ty5.und := by kernel_rfl
theorem ty5i : (Tryd.prog.info? 5).map (fun x => (x.size, x.bytes, x.zero)) = some (ty5.size, ty5.bytes, some ty5.zero) := by kernel_rfl
theorem ty9u : Tryd.prog.underlying 9 = some ty9.und := by kernel_rfl
theorem ty9i : (Tryd.prog.info? 9).map (fun x => (x.size, x.bytes, x.zero)) = some (ty9.size, ty9.bytes, some ty9.zero) := by kernel_rfl
theorem ty12u : Tryd.prog.underlying 12 = some ty12.und := by kernel_rfl
theorem ty12i : (Tryd.prog.info? 12).map (fun x => (x.size, x.bytes, x.zero)) = some (ty12.size, ty12.bytes, some ty12.zero) := by kernel_rfl
theorem ty17u : Tryd.prog.underlying 17 = some ty17.und := by kernel_rfl
theorem ty17i : (Tryd.prog.info? 17).map (fun x => (x.size, x.bytes, x.zero)) = some (ty17.size, ty17.bytes, some ty17.zero) := by kernel_rfl
theorem ty20u : Tryd.prog.underlying 20 = some ty20.und := by kernel_rfl
theorem ty20i : (Tryd.prog.info? 20).map (fun x => (x.size, x.bytes, x.zero)) = some (ty20.size, ty20.bytes, some ty20.zero) := by kernel_rfl
theorem ty24u : Tryd.prog.underlying 24 = some ty24.und := by kernel_rfl
theorem ty24i : (Tryd.prog.info? 24).map (fun x => (x.size, x.bytes, x.zero)) = some (ty24.size, ty24.bytes, some ty24.zero) := by kernel_rfl
theorem ty25u : Tryd.prog.underlying 25 = some ty25.und := by kernel_rfl
theorem ty25i : (Tryd.prog.info? 25).map (fun x => (x.size, x.bytes, x.zero)) = some (ty25.size, ty25.bytes, some ty25.zero) := by kernel_rfl
theorem ty26u : Tryd.prog.underlying 26 = some ty26.und := by kernel_rfl
theorem ty26i : (Tryd.prog.info? 26).map (fun x => (x.size, x.bytes, x.zero)) = some (ty26.size, ty26.bytes, some ty26.zero) := by kernel_rfl
theorem ty39u : Tryd.prog.underlying 39 = some ty39.und := by kernel_rfl
theorem ty39i : (Tryd.prog.info? 39).map (fun x => (x.size, x.bytes, x.zero)) = some (ty39.size, ty39.bytes, some ty39.zero) := by kernel_rfl
theorem ty40u : Tryd.prog.underlying 40 = some ty40.und := by kernel_rfl
theorem ty40i : (Tryd.prog.info? 40).map (fun x => (x.size, x.bytes, x.zero)) = some (ty40.size, ty40.bytes, some ty40.zero) := by kernel_rfl
theorem ty42u : Tryd.prog.underlying 42 = some ty42.und := by kernel_rfl
theorem ty42i : (Tryd.prog.info? 42).map (fun x => (x.size, x.bytes, x.zero)) = some (ty42.size, ty42.bytes, some ty42.zero) := by kernel_rfl
theorem ty44u : Tryd.prog.underlying 44 = some ty44.und := by kernel_rfl
theorem ty44i : (Tryd.prog.info? 44).map (fun x => (x.size, x.bytes, x.zero)) = some (ty44.size, ty44.bytes, some ty44.zero) := by kernel_rfl
theorem ty48u : Tryd.prog.underlying 48 = some ty48.und := by kernel_rfl
theorem ty48i : (Tryd.prog.info? 48).map (fun x => (x.size, x.bytes, x.zero)) = some (ty48.size, ty48.bytes, some ty48.zero) := by kernel_rfl
theorem ty51u : Tryd.prog.underlying 51 = some ty51.und := by kernel_rfl
theorem ty51i : (Tryd.prog.info? 51).map (fun x => (x.size, x.bytes, x.zero)) = some (ty51.size, ty51.bytes, some ty51.zero) := by kernel_rfl
theorem ty53u : Tryd.prog.underlying 53 = some ty53.und := by kernel_rfl
theorem ty53i : (Tryd.prog.info? 53).map (fun x => (x.size, x.bytes, x.zero)) = some (ty53.size, ty53.bytes, some ty53.zero) := by kernel_rfl
theorem ty54u : Tryd.prog.underlying 54 = some ty54.und := by kernel_rfl
theorem ty54i : (Tryd.prog.info? 54).map (fun x => (x.size, x.bytes, x.zero)) = some (ty54.size, ty54.bytes, some ty54.zero) := by kernel_rfl
theorem ty57u : Tryd.prog.underlying 57 = some ty57.und := by kernel_rfl
theorem ty57i : (Tryd.prog.info? 57).map (fun x => (x.size, x.bytes, x.zero)) = some (ty57.size, ty57.bytes, some ty57.zero) := by kernel_rfl
theorem ty65u : Tryd.prog.underlying 65 = some ty65.und := by kernel_rfl
theorem ty65i : (Tryd.prog.info? 65).map (fun x => (x.size, x.bytes, x.zero)) = some (ty65.size, ty65.bytes, some ty65.zero) := by kernel_rfl
theorem ty70u : Tryd.prog.underlying 70 = some ty70.und := by kernel_rfl
theorem ty70i : (Tryd.prog.info? 70).map (fun x => (x.size, x.bytes, x.zero)) = some (ty70.size, ty70.bytes, some ty70.zero) := by kernel_rfl
theorem ty72u : Tryd.prog.underlying 72 = some ty72.und := by kernel_rfl
theorem ty72i : (Tryd.prog.info? 72).map (fun x => (x.size, x.bytes, x.zero)) = some (ty72.size, ty72.bytes, some ty72.zero) := by kernel_rfl
theorem ty74u : Tryd.prog.underlying 74 = some ty74.und := by kernel_rfl
theorem ty74i : (Tryd.prog.info? 74).map (fun x => (x.size, x.bytes, x.zero)) = some (ty74.size, ty74.bytes, some ty74.zero) := by kernel_rfl
theorem ty79u : Tryd.prog.underlying 79 = some ty79.und := by kernel_rfl
theorem ty79i : (Tryd.prog.info? 79).map (fun x => (x.size, x.bytes, x.zero)) = some (ty79.size, ty79.bytes, some ty79.zero) := by kernel_rfl
theorem ty80u : Tryd.prog.underlying 80 = some ty80.und := by kernel_rfl
theorem ty80i : (Tryd.prog.info? 80).map (fun x => (x.size, x.bytes, x.zero)) = some (ty80.size, ty80.bytes, some ty80.zero) := by kernel_rfl
theorem ty82u : Tryd.prog.underlying 82 = some ty82.und := by kernel_rfl
theorem ty82i : (Tryd.prog.info? 82).map (fun x => (x.size, x.bytes, x.zero)) = some (ty82.size, ty82.bytes, some ty82.zero) := by kernel_rfl
theorem ty85u : Tryd.prog.underlying 85 = some ty85.und := by kernel_rfl
theorem ty85i : (Tryd.prog.info? 85).map (fun x => (x.size, x.bytes, x.zero)) = some (ty85.size, ty85.bytes, some ty85.zero) := by kernel_rfl
theorem ty87u : Tryd.prog.underlying 87 = some ty87.und := by kernel_rfl
theorem ty87i : (Tryd.prog.info? 87).map (fun x => (x.size, x.bytes, x.zero)) = some (ty87.size, ty87.bytes, some ty87.zero) := by kernel_rfl
theorem ty99u : Tryd.prog.underlying 99 = some ty99.und := by kernel_rfl
theorem ty99i : (Tryd.prog.info? 99).map (fun x => (x.size, x.bytes, x.zero)) = some (ty99.size, ty99.bytes, some ty99.zero) := by kernel_rfl
theorem ty102u : Tryd.prog.underlying 102 = some ty102.und := by kernel_rfl
theorem ty102i : (Tryd.prog.info? 102).map (fun x => (x.size, x.bytes, x.zero)) = some (ty102.size, ty102.bytes, some ty102.zero) := by kernel_rfl
theorem ty104u : Tryd.prog.underlying 104 = some ty104.und := by kernel_rfl
theorem ty104i : (Tryd.prog.info? 104).map (fun x => (x.size, x.bytes, x.zero)) = some (ty104.size, ty104.bytes, some ty104.zero) := by kernel_rfl
theorem ty105u : Tryd.prog.underlying 105 = some ty105.und := by kernel_rfl
theorem ty105i : (Tryd.prog.info? 105).map (fun x => (x.size, x.bytes, x.zero)) = some (ty105.size, ty105.bytes, some ty105.zero) := by kernel_rfl
theorem ty115u : Tryd.prog.underlying 115 = some ty115.und := by kernel_rfl
theorem ty115i : (Tryd.prog.info? 115).map (fun x => (x.size, x.bytes, x.zero)) = some (ty115.size, ty115.bytes, some ty115.zero) := by kernel_rfl
theorem ty116u : Tryd.prog.underlying 116 = some ty116.und := by kernel_rfl
theorem ty116i : (Tryd.prog.info? 116).map (fun x => (x.size, x.bytes, x.zero)) = some (ty116.size, ty116.bytes, some ty116.zero) := by kernel_rfl
theorem ty117u : Tryd.prog.underlying 117 = some ty117.und := by kernel_rfl
theorem ty117i : (Tryd.prog.info? 117).map (fun x => (x.size, x.bytes, x.zero)) = some (ty117.size, ty117.bytes, some ty117.zero) := by kernel_rfl
theorem ty118u : Tryd.prog.underlying 118 = some ty118.und := by kernel_rfl
theorem ty118i : (Tryd.prog.info? 118).map (fun x => (x.size, x.bytes, x.zero)) = some (ty118.size, ty118.bytes, some ty118.zero) := by kernel_rfl
theorem ty119u : Tryd.prog.underlying 119 = some ty119.und := by kernel_rfl
theorem ty119i : (Tryd.prog.info? 119).map (fun x => (x.size, x.bytes, x.zero)) = some (ty119.size, ty119.bytes, some ty119.zero) := by kernel_rfl
theorem ty121u : Tryd.prog.underlying 121 = some ty121.und := by kernel_rfl
theorem ty121i : (Tryd.prog.info? 121).map (fun x => (x.size, x.bytes, x.zero)) = some (ty121.size, ty121.bytes, some ty121.zero) := by kernel_rfl
theorem ty134u : Tryd.prog.underlying 134 = some ty134.und := by kernel_rfl
theorem ty134i : (Tryd.prog.info? 134).map (fun x => (x.size, x.bytes, x.zero)) = some (ty134.size, ty134.bytes, some ty134.zero) := by kernel_rfl

theorem tt_ok : TOk Tryd.prog tt := (.cons ty3u ty3i (.cons ty4u ty4i (.cons ty5u ty5i (.cons ty9u ty9i (.cons ty12u ty12i (.cons ty17u ty17i (.cons ty20u ty20i (.cons ty24u ty24i (.cons ty25u ty25i (.cons ty26u ty26i (.cons ty39u ty39i (.cons ty40u ty40i (.cons ty42u ty42i (.cons ty44u ty44i (.cons ty48u ty48i (.cons ty51u ty51i (.cons ty53u ty53i (.cons ty54u ty54i (.cons ty57u ty57i (.cons ty65u ty65i (.cons ty70u ty70i (.cons ty72u ty72i (.cons ty74u ty74i (.cons ty79u ty79i (.cons ty80u ty80i (.cons ty82u ty82i (.cons ty85u ty85i (.cons ty87u ty87i (.cons ty99u ty99i (.cons ty102u ty102i (.cons ty104u ty104i (.cons ty105u ty105i (.cons ty115u ty115i (.cons ty116u ty116i (.cons ty117u ty117i (.cons ty118u ty118i (.cons ty119u ty119i (.cons ty121u ty121i (.cons ty134u ty134i (.nil _))))))))))))))))))))))))))))))))))))))))

end Go.Proofs.YtebkcfdcmincfaaDoor
