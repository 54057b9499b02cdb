/-
  The types that the program's code names, as the loaded program has them. Written by a program.
-/
import Derived.Test.YtififgodhnelgaaV
import Derived.Test.YtififgodhnelgaaProg
import Derived.KernelRfl
namespace Go.Proofs.Ytififgodhnelgaa
open Go V

/-- int -/
def ty3 : TI := ⟨Go.TypeDesc.int (Go.IntKind.i64), 1, 8, (.int .i64 0)⟩
/-- bool -/
def ty4 : TI := ⟨Go.TypeDesc.bool, 1, 1, (.bool false)⟩
/-- uint8 -/
def ty5 : TI := ⟨Go.TypeDesc.int (Go.IntKind.u8), 1, 1, (.int .u8 0)⟩
/-- string -/
def ty9 : TI := ⟨Go.TypeDesc.string, 1, 16, (.string ByteArray.empty)⟩
/-- interface {} -/
def ty20 : TI := ⟨Go.TypeDesc.interface #[], 1, 16, .nilIface⟩
/-- []uint8 -/
def ty22 : TI := ⟨Go.TypeDesc.slice 5, 1, 24, (.slice none 0 0)⟩
/-- api.Packet -/
def ty24 : TI := ⟨Go.TypeDesc.struct   #[{ name := "Code", type := 3, offset := 0, embedded := false, tag := "", pkgPath := "", byteOffset := 0 },     { name := "Id", type := 3, offset := 1, embedded := false, tag := "", pkgPath := "", byteOffset := 8 },     { name := "Data", type := 22, offset := 2, embedded := false, tag := "", pkgPath := "", byteOffset := 16 }], 3, 40, (.agg #[(.int .i64 0), (.int .i64 0), (.slice none 0 0)])⟩
/-- api.Errno -/
def ty26 : TI := ⟨Go.TypeDesc.int (Go.IntKind.i64), 1, 8, (.int .i64 0)⟩
/-- []api.Option -/
def ty38 : TI := ⟨Go.TypeDesc.slice 42, 1, 24, (.slice none 0 0)⟩
/-- api.Option -/
def ty42 : TI := ⟨Go.TypeDesc.struct   #[{ name := "Type", type := 3, offset := 0, embedded := false, tag := "", pkgPath := "", byteOffset := 0 },     { name := "Data", type := 22, offset := 1, embedded := false, tag := "", pkgPath := "", byteOffset := 8 }], 2, 32, (.agg #[(.int .i64 0), (.slice none 0 0)])⟩
/-- [7]uint8 -/
def ty54 : TI := ⟨Go.TypeDesc.array 7 5, 7, 7, (.agg (Array.replicate 7 (.int .u8 0)))⟩
/-- [8]uint8 -/
def ty55 : TI := ⟨Go.TypeDesc.array 8 5, 8, 8, (.agg (Array.replicate 8 (.int .u8 0)))⟩
/-- uint -/
def ty58 : TI := ⟨Go.TypeDesc.int (Go.IntKind.u64), 1, 8, (.int .u64 0)⟩
/-- error -/
def ty60 : TI := ⟨Go.TypeDesc.interface #[("Error", 114)], 1, 16, .nilIface⟩
/-- func(int) int -/
def ty68 : TI := ⟨Go.TypeDesc.func #[3] #[3] false, 1, 8, .nilFunc⟩
/-- [][]uint8 -/
def ty69 : TI := ⟨Go.TypeDesc.slice 22, 1, 24, (.slice none 0 0)⟩
/-- []int -/
def ty74 : TI := ⟨Go.TypeDesc.slice 3, 1, 24, (.slice none 0 0)⟩
/-- *fairleadref1.Bits -/
def ty78 : TI := ⟨Go.TypeDesc.pointer 80, 1, 8, (.pointer none)⟩
/-- fairleadref1.Bits -/
def ty80 : TI := ⟨Go.TypeDesc.struct   #[{ name := "B", type := 22, offset := 0, embedded := false, tag := "", pkgPath := "", byteOffset := 0 },     { name := "At", type := 3, offset := 1, embedded := false, tag := "", pkgPath := "", byteOffset := 24 },     { name := "High", type := 4, offset := 2, embedded := false, tag := "", pkgPath := "", byteOffset := 32 }], 3, 40, (.agg #[(.slice none 0 0), (.int .i64 0), (.bool false)])⟩
/-- []api.Errno -/
def ty83 : TI := ⟨Go.TypeDesc.slice 26, 1, 24, (.slice none 0 0)⟩
/-- [8]int -/
def ty85 : TI := ⟨Go.TypeDesc.array 8 3, 8, 64, (.agg (Array.replicate 8 (.int .i64 0)))⟩
/-- [16]uint8 -/
def ty88 : TI := ⟨Go.TypeDesc.array 16 5, 16, 16, (.agg (Array.replicate 16 (.int .u8 0)))⟩
/-- *api.Fault -/
def ty93 : TI := ⟨Go.TypeDesc.pointer 95, 1, 8, (.pointer none)⟩
/-- api.Fault -/
def ty95 : TI := ⟨Go.TypeDesc.struct   #[{ name := "Layer", type := 9, offset := 0, embedded := false, tag := "", pkgPath := "", byteOffset := 0 },     { name := "E", type := 26, offset := 1, embedded := false, tag := "", pkgPath := "", byteOffset := 16 }], 2, 24, (.agg #[(.string ByteArray.empty), (.int .i64 0)])⟩
/-- interface { Is(error) bool } -/
def ty106 : TI := ⟨Go.TypeDesc.interface #[("Is", 108)], 1, 16, .nilIface⟩
/-- interface { Unwrap() error } -/
def ty109 : TI := ⟨Go.TypeDesc.interface #[("Unwrap", 110)], 1, 16, .nilIface⟩
/-- interface { Unwrap() []error } -/
def ty111 : TI := ⟨Go.TypeDesc.interface #[("Unwrap", 113)], 1, 16, .nilIface⟩
/-- []error -/
def ty112 : TI := ⟨Go.TypeDesc.slice 60, 1, 24, (.slice none 0 0)⟩

def tt : TT := [(3, ty3), (4, ty4), (5, ty5), (9, ty9), (20, ty20), (22, ty22), (24, ty24), (26, ty26), (38, ty38), (42, ty42), (54, ty54), (55, ty55), (58, ty58), (60, ty60), (68, ty68), (69, ty69), (74, ty74), (78, ty78), (80, ty80), (83, ty83), (85, ty85), (88, ty88), (93, ty93), (95, ty95), (106, ty106), (109, ty109), (111, ty111), (112, ty112)]

theorem ty3u : Try.prog.underlying 3 = some ty3.und := by kernel_rfl
theorem ty3i : (Try.prog.info? 3).map (fun x => (x.size, x.bytes, x.zero)) = some (ty3.size, ty3.bytes, some ty3.zero) := by kernel_rfl
theorem ty4u : Try.prog.underlying 4 = some ty4.und := by kernel_rfl
theorem ty4i : (Try.prog.info? 4).map (fun x => (x.size, x.bytes, x.zero)) = some (ty4.size, ty4.bytes, some ty4.zero) := by kernel_rfl
theorem ty5u : Try.prog.underlying 5 = some ty5.und := by kernel_rfl
theorem ty5i : (Try.prog.info? 5).map (fun x => (x.size, x.bytes, x.zero)) = some (ty5.size, ty5.bytes, some ty5.zero) := by kernel_rfl
theorem ty9u : Try.prog.underlying 9 = some ty9.und := by kernel_rfl
theorem ty9i : (Try.prog.info? 9).map (fun x => (x.size, x.bytes, x.zero)) = some (ty9.size, ty9.bytes, some ty9.zero) := by kernel_rfl
theorem ty20u : Try.prog.underlying 20 = some ty20.und := by kernel_rfl
theorem ty20i : (Try.prog.info? 20).map (fun x => (x.size, x.bytes, x.zero)) = some (ty20.size, ty20.bytes, some ty20.zero) := by kernel_rfl
theorem ty22u : Try.prog.underlying 22 = some ty22.und := by kernel_rfl
theorem ty22i : (Try.prog.info? 22).map (fun x => (x.size, x.bytes, x.zero)) = some (ty22.size, ty22.bytes, some ty22.zero) := by kernel_rfl
theorem ty24u : Try.prog.underlying 24 = some ty24.und := by kernel_rfl
theorem ty24i : (Try.prog.info? 24).map (fun x => (x.size, x.bytes, x.zero)) = some (ty24.size, ty24.bytes, some ty24.zero) := by kernel_rfl
theorem ty26u : Try.prog.underlying 26 = some ty26.und := by kernel_rfl
theorem ty26i : (Try.prog.info? 26).map (fun x => (x.size, x.bytes, x.zero)) = some (ty26.size, ty26.bytes, some ty26.zero) := by kernel_rfl
theorem ty38u : Try.prog.underlying 38 = some ty38.und := by kernel_rfl
theorem ty38i : (Try.prog.info? 38).map (fun x => (x.size, x.bytes, x.zero)) = some (ty38.size, ty38.bytes, some ty38.zero) := by kernel_rfl
theorem ty42u : Try.prog.underlying 42 = some ty42.und := by kernel_rfl
theorem ty42i : (Try.prog.info? 42).map (fun x => (x.size, x.bytes, x.zero)) = some (ty42.size, ty42.bytes, some ty42.zero) := by kernel_rfl
theorem ty54u : Try.prog.underlying 54 = some ty54.und := by kernel_rfl
theorem ty54i : (Try.prog.info? 54).map (fun x => (x.size, x.bytes, x.zero)) = some (ty54.size, ty54.bytes, some ty54.zero) := by kernel_rfl
theorem ty55u : Try.prog.underlying 55 = some ty55.und := by kernel_rfl
theorem ty55i : (Try.prog.info? 55).map (fun x => (x.size, x.bytes, x.zero)) = some (ty55.size, ty55.bytes, some ty55.zero) := by kernel_rfl
theorem ty58u : Try.prog.underlying 58 = some ty58.und := by kernel_rfl
theorem ty58i : (Try.prog.info? 58).map (fun x => (x.size, x.bytes, x.zero)) = some (ty58.size, ty58.bytes, some ty58.zero) := by kernel_rfl
theorem ty60u : Try.prog.underlying 60 = some ty60.und := by kernel_rfl
theorem ty60i : (Try.prog.info? 60).map (fun x => (x.size, x.bytes, x.zero)) = some (ty60.size, ty60.bytes, some ty60.zero) := by kernel_rfl
theorem ty68u : Try.prog.underlying 68 = some ty68.und := by kernel_rfl
theorem ty68i : (Try.prog.info? 68).map (fun x => (x.size, x.bytes, x.zero)) = some (ty68.size, ty68.bytes, some ty68.zero) := by kernel_rfl
theorem ty69u : Try.prog.underlying 69 = some ty69.und := by kernel_rfl
theorem ty69i : (Try.prog.info? 69).map (fun x => (x.size, x.bytes, x.zero)) = some (ty69.size, ty69.bytes, some ty69.zero) := by kernel_rfl
theorem ty74u : Try.prog.underlying 74 = some ty74.und := by kernel_rfl
theorem ty74i : (Try.prog.info? 74).map (fun x => (x.size, x.bytes, x.zero)) = some (ty74.size, ty74.bytes, some ty74.zero) := by kernel_rfl
theorem ty78u : Try.prog.underlying 78 = some ty78.und := by kernel_rfl
theorem ty78i : (Try.prog.info? 78).map (fun x => (x.size, x.bytes, x.zero)) = some (ty78.size, ty78.bytes, some ty78.zero) := by kernel_rfl
theorem ty80u : Try.prog.underlying 80 = some ty80.und := by kernel_rfl
theorem ty80i : (Try.prog.info? 80).map (fun x => (x.size, x.bytes, x.zero)) = some (ty80.size, ty80.bytes, some ty80.zero) := by kernel_rfl
theorem ty83u : Try.prog.underlying 83 = some ty83.und := by kernel_rfl
theorem ty83i : (Try.prog.info? 83).map (fun x => (x.size, x.bytes, x.zero)) = some (ty83.size, ty83.bytes, some ty83.zero) := by kernel_rfl
theorem ty85u : Try.prog.underlying 85 = some ty85.und := by kernel_rfl
theorem ty85i : (Try.prog.info? 85).map (fun x => (x.size, x.bytes, x.zero)) = some (ty85.size, ty85.bytes, some ty85.zero) := by kernel_rfl
theorem ty88u : Try.prog.underlying 88 = some ty88.und := by kernel_rfl
theorem ty88i : (Try.prog.info? 88).map (fun x => (x.size, x.bytes, x.zero)) = some (ty88.size, ty88.bytes, some ty88.zero) := by kernel_rfl
theorem ty93u : Try.prog.underlying 93 = some ty93.und := by kernel_rfl
theorem ty93i : (Try.prog.info? 93).map (fun x => (x.size, x.bytes, x.zero)) = some (ty93.size, ty93.bytes, some ty93.zero) := by kernel_rfl
theorem ty95u : Try.prog.underlying 95 = some ty95.und := by kernel_rfl
theorem ty95i : (Try.prog.info? 95).map (fun x => (x.size, x.bytes, x.zero)) = some (ty95.size, ty95.bytes, some ty95.zero) := by kernel_rfl
theorem ty106u : Try.prog.underlying 106 = some ty106.und := by kernel_rfl
theorem ty106i : (Try.prog.info? 106).map (fun x => (x.size, x.bytes, x.zero)) = some (ty106.size, ty106.bytes, some ty106.zero) := by kernel_rfl
theorem ty109u : Try.prog.underlying 109 = some ty109.und := by kernel_rfl
theorem ty109i : (Try.prog.info? 109).map (fun x => (x.size, x.bytes, x.zero)) = some (ty109.size, ty109.bytes, some ty109.zero) := by kernel_rfl
theorem ty111u : Try.prog.underlying 111 = some ty111.und := by kernel_rfl
theorem ty111i : (Try.prog.info? 111).map (fun x => (x.size, x.bytes, x.zero)) = some (ty111.size, ty111.bytes, some ty111.zero) := by kernel_rfl
theorem ty112u : Try.prog.underlying 112 = some ty112.und := by kernel_rfl
theorem ty112i : (Try.prog.info? 112).map (fun x => (x.size, x.bytes, x.zero)) = some (ty112.size, ty112.bytes, some ty112.zero) := by kernel_rfl

theorem tt_ok : TOk Try.prog tt := (.cons ty3u ty3i (.cons ty4u ty4i (.cons ty5u ty5i (.cons ty9u ty9i (.cons ty20u ty20i (.cons ty22u ty22i (.cons ty24u ty24i (.cons ty26u ty26i (.cons ty38u ty38i (.cons ty42u ty42i (.cons ty54u ty54i (.cons ty55u ty55i (.cons ty58u ty58i (.cons ty60u ty60i (.cons ty68u ty68i (.cons ty69u ty69i (.cons ty74u ty74i (.cons ty78u ty78i (.cons ty80u ty80i (.cons ty83u ty83i (.cons ty85u ty85i (.cons ty88u ty88i (.cons ty93u ty93i (.cons ty95u ty95i (.cons ty106u ty106i (.cons ty109u ty109i (.cons ty111u ty111i (.cons ty112u ty112i (.nil _)))))))))))))))))))))))))))))

end Go.Proofs.Ytififgodhnelgaa
