/- The facts of the types of this translation. -/
import Derived.Test.YtlcajocjiehplaaProg
import Derived.Test.YtlcajocjiehplaaZzVc
set_option maxRecDepth 10000
namespace Go.Proofs.Ytlcajocjiehplaa
open Go Go.Abs
theorem ty0 : tyd Try.prog 0 = some ⟨1, 0, false, .tuple #[], some (Value.tuple #[])⟩ := by kernel_rfl
theorem ty1 : tyd Try.prog 1 = some ⟨1, 8, false, .func #[] #[] false, some (Value.nilFunc)⟩ := by kernel_rfl
theorem ty2 : tyd Try.prog 2 = some ⟨1, 8, false, .int .i64, some (Value.int .i64 0)⟩ := by kernel_rfl
theorem ty3 : tyd Try.prog 3 = some ⟨1, 8, false, .int .i64, some (Value.int .i64 0)⟩ := by kernel_rfl
theorem ty4 : tyd Try.prog 4 = some ⟨1, 1, false, .bool, some (Value.bool false)⟩ := by kernel_rfl
theorem ty5 : tyd Try.prog 5 = some ⟨1, 1, false, .int .u8, some (Value.int .u8 0)⟩ := by kernel_rfl
theorem ty6 : tyd Try.prog 6 = some ⟨1, 1, false, .int .u8, some (Value.int .u8 0)⟩ := by kernel_rfl
theorem ty7 : tyd Try.prog 7 = some ⟨4, 24, true, .struct #[{ name := "x", type := 2, offset := 0, embedded := false, tag := "", pkgPath := "runtime", byteOffset := 0 }, { name := "y", type := 3, offset := 1, embedded := false, tag := "", pkgPath := "runtime", byteOffset := 8 }, { name := "signed", type := 4, offset := 2, embedded := false, tag := "", pkgPath := "runtime", byteOffset := 16 }, { name := "code", type := 6, offset := 3, embedded := false, tag := "", pkgPath := "runtime", byteOffset := 17 }], some (Value.agg #[Value.int .i64 0, Value.int .i64 0, Value.bool false, Value.int .u8 0])⟩ := by kernel_rfl
theorem ty8 : tyd Try.prog 8 = some ⟨4, 24, true, .struct #[{ name := "x", type := 2, offset := 0, embedded := false, tag := "", pkgPath := "runtime", byteOffset := 0 }, { name := "y", type := 3, offset := 1, embedded := false, tag := "", pkgPath := "runtime", byteOffset := 8 }, { name := "signed", type := 4, offset := 2, embedded := false, tag := "", pkgPath := "runtime", byteOffset := 16 }, { name := "code", type := 6, offset := 3, embedded := false, tag := "", pkgPath := "runtime", byteOffset := 17 }], some (Value.agg #[Value.int .i64 0, Value.int .i64 0, Value.bool false, Value.int .u8 0])⟩ := by kernel_rfl
theorem ty9 : tyd Try.prog 9 = some ⟨1, 16, false, .string, some (Value.string ByteArray.empty)⟩ := by kernel_rfl
theorem ty10 : tyd Try.prog 10 = some ⟨1, 16, false, .string, some (Value.string ByteArray.empty)⟩ := by kernel_rfl
theorem ty11 : tyd Try.prog 11 = some ⟨1, 16, false, .string, some (Value.string ByteArray.empty)⟩ := by kernel_rfl
theorem ty12 : tyd Try.prog 12 = some ⟨1, 8, false, .int .u64, some (Value.int .u64 0)⟩ := by kernel_rfl
theorem ty13 : tyd Try.prog 13 = some ⟨2, 24, true, .struct #[{ name := "msg", type := 9, offset := 0, embedded := false, tag := "", pkgPath := "runtime", byteOffset := 0 }, { name := "addr", type := 12, offset := 1, embedded := false, tag := "", pkgPath := "runtime", byteOffset := 16 }], some (Value.agg #[Value.string ByteArray.empty, Value.int .u64 0])⟩ := by kernel_rfl
theorem ty14 : tyd Try.prog 14 = some ⟨2, 24, true, .struct #[{ name := "msg", type := 9, offset := 0, embedded := false, tag := "", pkgPath := "runtime", byteOffset := 0 }, { name := "addr", type := 12, offset := 1, embedded := false, tag := "", pkgPath := "runtime", byteOffset := 16 }], some (Value.agg #[Value.string ByteArray.empty, Value.int .u64 0])⟩ := by kernel_rfl
theorem ty15 : tyd Try.prog 15 = some ⟨1, 8, false, .pointer 134, some (Value.pointer none)⟩ := by kernel_rfl
theorem ty16 : tyd Try.prog 16 = some ⟨1, 8, false, .pointer 137, some (Value.pointer none)⟩ := by kernel_rfl
theorem ty17 : tyd Try.prog 17 = some ⟨1, 8, false, .pointer 146, some (Value.pointer none)⟩ := by kernel_rfl
theorem ty18 : tyd Try.prog 18 = some ⟨1, 8, true, .struct #[{ name := "typ", type := 17, offset := 0, embedded := false, tag := "", pkgPath := "internal/runtime/maps", byteOffset := 0 }], some (Value.agg #[Value.pointer none])⟩ := by kernel_rfl
theorem ty19 : tyd Try.prog 19 = some ⟨1, 8, true, .struct #[{ name := "typ", type := 17, offset := 0, embedded := false, tag := "", pkgPath := "internal/runtime/maps", byteOffset := 0 }], some (Value.agg #[Value.pointer none])⟩ := by kernel_rfl
theorem ty20 : tyd Try.prog 20 = some ⟨1, 16, false, .interface #[], some (Value.nilIface)⟩ := by kernel_rfl
theorem ty21 : tyd Try.prog 21 = some ⟨1, 4, false, .int .i32, some (Value.int .i32 0)⟩ := by kernel_rfl
theorem ty22 : tyd Try.prog 22 = some ⟨1, 24, false, .slice 53, some (Value.slice none 0 0)⟩ := by kernel_rfl
theorem ty23 : tyd Try.prog 23 = some ⟨1, 24, false, .slice 57, some (Value.slice none 0 0)⟩ := by kernel_rfl
theorem ty24 : tyd Try.prog 24 = some ⟨2, 48, true, .struct #[{ name := "Members", type := 22, offset := 0, embedded := false, tag := "", pkgPath := "", byteOffset := 0 }, { name := "Copies", type := 23, offset := 1, embedded := false, tag := "", pkgPath := "", byteOffset := 24 }], some (Value.agg #[Value.slice none 0 0, Value.slice none 0 0])⟩ := by kernel_rfl
theorem ty25 : tyd Try.prog 25 = some ⟨2, 48, true, .struct #[{ name := "Members", type := 22, offset := 0, embedded := false, tag := "", pkgPath := "", byteOffset := 0 }, { name := "Copies", type := 23, offset := 1, embedded := false, tag := "", pkgPath := "", byteOffset := 24 }], some (Value.agg #[Value.slice none 0 0, Value.slice none 0 0])⟩ := by kernel_rfl
theorem ty26 : tyd Try.prog 26 = some ⟨1, 8, false, .func #[] #[4] false, some (Value.nilFunc)⟩ := by kernel_rfl
theorem ty27 : tyd Try.prog 27 = some ⟨1, 8, false, .func #[25] #[4] false, some (Value.nilFunc)⟩ := by kernel_rfl
theorem ty28 : tyd Try.prog 28 = some ⟨1, 8, false, .func #[25, 25] #[4] false, some (Value.nilFunc)⟩ := by kernel_rfl
theorem ty29 : tyd Try.prog 29 = some ⟨1, 8, false, .func #[3] #[25] false, some (Value.nilFunc)⟩ := by kernel_rfl
theorem ty30 : tyd Try.prog 30 = some ⟨1, 8, false, .func #[25, 25] #[25] false, some (Value.nilFunc)⟩ := by kernel_rfl
theorem ty31 : tyd Try.prog 31 = some ⟨1, 8, false, .func #[32, 32] #[4] false, some (Value.nilFunc)⟩ := by kernel_rfl
theorem ty32 : tyd Try.prog 32 = some ⟨1, 24, false, .slice 3, some (Value.slice none 0 0)⟩ := by kernel_rfl
theorem ty33 : tyd Try.prog 33 = some ⟨1, 8, false, .func #[25] #[32] false, some (Value.nilFunc)⟩ := by kernel_rfl
theorem ty34 : tyd Try.prog 34 = some ⟨1, 8, false, .func #[25, 3] #[25] false, some (Value.nilFunc)⟩ := by kernel_rfl
theorem ty35 : tyd Try.prog 35 = some ⟨1, 8, false, .func #[25, 9] #[3] false, some (Value.nilFunc)⟩ := by kernel_rfl
theorem ty36 : tyd Try.prog 36 = some ⟨1, 8, false, .func #[25, 9, 3] #[25] false, some (Value.nilFunc)⟩ := by kernel_rfl
theorem ty37 : tyd Try.prog 37 = some ⟨1, 8, false, .func #[25, 25, 3, 3, 9] #[4] false, some (Value.nilFunc)⟩ := by kernel_rfl
theorem ty38 : tyd Try.prog 38 = some ⟨1, 8, false, .int .u64, some (Value.int .u64 0)⟩ := by kernel_rfl
theorem ty39 : tyd Try.prog 39 = some ⟨1, 8, false, .func #[3, 3] #[38] false, some (Value.nilFunc)⟩ := by kernel_rfl
theorem ty40 : tyd Try.prog 40 = some ⟨1, 8, false, .func #[9] #[38] false, some (Value.nilFunc)⟩ := by kernel_rfl
theorem ty41 : tyd Try.prog 41 = some ⟨1, 8, false, .func #[32, 9] #[32] false, some (Value.nilFunc)⟩ := by kernel_rfl
theorem ty42 : tyd Try.prog 42 = some ⟨1, 8, false, .func #[32, 9, 3] #[32] false, some (Value.nilFunc)⟩ := by kernel_rfl
theorem ty43 : tyd Try.prog 43 = some ⟨1, 8, false, .func #[32, 9, 3, 3, 3] #[4] false, some (Value.nilFunc)⟩ := by kernel_rfl
theorem ty44 : tyd Try.prog 44 = some ⟨1, 8, false, .int .u64, some (Value.int .u64 0)⟩ := by kernel_rfl
theorem ty45 : tyd Try.prog 45 = some ⟨1, 8, false, .func #[32, 3] #[4] false, some (Value.nilFunc)⟩ := by kernel_rfl
theorem ty46 : tyd Try.prog 46 = some ⟨1, 8, false, .func #[5, 5, 9, 4] #[4] false, some (Value.nilFunc)⟩ := by kernel_rfl
theorem ty47 : tyd Try.prog 47 = some ⟨1, 8, false, .func #[5, 9, 5] #[4] false, some (Value.nilFunc)⟩ := by kernel_rfl
theorem ty48 : tyd Try.prog 48 = some ⟨1, 8, false, .func #[25, 9] #[32] false, some (Value.nilFunc)⟩ := by kernel_rfl
theorem ty49 : tyd Try.prog 49 = some ⟨1, 8, false, .func #[25, 3, 9] #[4] false, some (Value.nilFunc)⟩ := by kernel_rfl
theorem ty50 : tyd Try.prog 50 = some ⟨1, 8, false, .func #[25, 25, 9] #[32] false, some (Value.nilFunc)⟩ := by kernel_rfl
theorem ty51 : tyd Try.prog 51 = some ⟨1, 8, false, .func #[25, 25, 3, 9] #[4] false, some (Value.nilFunc)⟩ := by kernel_rfl
theorem ty52 : tyd Try.prog 52 = some ⟨2, 16, true, .struct #[{ name := "Node", type := 3, offset := 0, embedded := false, tag := "", pkgPath := "", byteOffset := 0 }, { name := "N", type := 38, offset := 1, embedded := false, tag := "", pkgPath := "", byteOffset := 8 }], some (Value.agg #[Value.int .i64 0, Value.int .u64 0])⟩ := by kernel_rfl
theorem ty53 : tyd Try.prog 53 = some ⟨2, 16, true, .struct #[{ name := "Node", type := 3, offset := 0, embedded := false, tag := "", pkgPath := "", byteOffset := 0 }, { name := "N", type := 38, offset := 1, embedded := false, tag := "", pkgPath := "", byteOffset := 8 }], some (Value.agg #[Value.int .i64 0, Value.int .u64 0])⟩ := by kernel_rfl
theorem ty54 : tyd Try.prog 54 = some ⟨1, 8, false, .func #[53, 53] #[3] false, some (Value.nilFunc)⟩ := by kernel_rfl
theorem ty55 : tyd Try.prog 55 = some ⟨1, 24, false, .slice 9, some (Value.slice none 0 0)⟩ := by kernel_rfl
theorem ty56 : tyd Try.prog 56 = some ⟨3, 32, true, .struct #[{ name := "Key", type := 9, offset := 0, embedded := false, tag := "", pkgPath := "", byteOffset := 0 }, { name := "N", type := 38, offset := 1, embedded := false, tag := "", pkgPath := "", byteOffset := 16 }, { name := "M", type := 38, offset := 2, embedded := false, tag := "", pkgPath := "", byteOffset := 24 }], some (Value.agg #[Value.string ByteArray.empty, Value.int .u64 0, Value.int .u64 0])⟩ := by kernel_rfl
theorem ty57 : tyd Try.prog 57 = some ⟨3, 32, true, .struct #[{ name := "Key", type := 9, offset := 0, embedded := false, tag := "", pkgPath := "", byteOffset := 0 }, { name := "N", type := 38, offset := 1, embedded := false, tag := "", pkgPath := "", byteOffset := 16 }, { name := "M", type := 38, offset := 2, embedded := false, tag := "", pkgPath := "", byteOffset := 24 }], some (Value.agg #[Value.string ByteArray.empty, Value.int .u64 0, Value.int .u64 0])⟩ := by kernel_rfl
theorem ty58 : tyd Try.prog 58 = some ⟨1, 8, false, .func #[55] #[4] false, some (Value.nilFunc)⟩ := by kernel_rfl
theorem ty59 : tyd Try.prog 59 = some ⟨1, 8, false, .func #[22, 22] #[4] false, some (Value.nilFunc)⟩ := by kernel_rfl
theorem ty60 : tyd Try.prog 60 = some ⟨1, 8, false, .func #[23, 23] #[4] false, some (Value.nilFunc)⟩ := by kernel_rfl
theorem ty61 : tyd Try.prog 61 = some ⟨1, 8, false, .func #[23, 23, 62, 65] #[23] false, some (Value.nilFunc)⟩ := by kernel_rfl
theorem ty62 : tyd Try.prog 62 = some ⟨1, 8, false, .func #[57, 57] #[3] false, some (Value.nilFunc)⟩ := by kernel_rfl
theorem ty63 : tyd Try.prog 63 = some ⟨1, 8, false, .func #[32] #[3] true, some (Value.nilFunc)⟩ := by kernel_rfl
theorem ty64 : tyd Try.prog 64 = some ⟨1, 8, false, .func #[38, 38] #[3] false, some (Value.nilFunc)⟩ := by kernel_rfl
theorem ty65 : tyd Try.prog 65 = some ⟨1, 8, false, .func #[57, 57] #[57] false, some (Value.nilFunc)⟩ := by kernel_rfl
theorem ty66 : tyd Try.prog 66 = some ⟨1, 8, false, .func #[22, 22, 54, 67] #[22] false, some (Value.nilFunc)⟩ := by kernel_rfl
theorem ty67 : tyd Try.prog 67 = some ⟨1, 8, false, .func #[53, 53] #[53] false, some (Value.nilFunc)⟩ := by kernel_rfl
theorem ty68 : tyd Try.prog 68 = some ⟨1, 8, false, .func #[22, 53] #[22] false, some (Value.nilFunc)⟩ := by kernel_rfl
theorem ty69 : tyd Try.prog 69 = some ⟨1, 8, false, .func #[23, 57] #[23] false, some (Value.nilFunc)⟩ := by kernel_rfl
theorem ty70 : tyd Try.prog 70 = some ⟨1, 8, false, .func #[23] #[23] false, some (Value.nilFunc)⟩ := by kernel_rfl
theorem ty71 : tyd Try.prog 71 = some ⟨1, 0, false, .tuple #[57, 4], some (Value.tuple #[Value.agg #[Value.string ByteArray.empty, Value.int .u64 0, Value.int .u64 0], Value.bool false])⟩ := by kernel_rfl
theorem ty72 : tyd Try.prog 72 = some ⟨1, 8, false, .func #[25, 9] #[57, 4] false, some (Value.nilFunc)⟩ := by kernel_rfl
theorem ty73 : tyd Try.prog 73 = some ⟨1, 8, false, .func #[22] #[22] false, some (Value.nilFunc)⟩ := by kernel_rfl
theorem ty74 : tyd Try.prog 74 = some ⟨1, 8, false, .func #[38] #[38] false, some (Value.nilFunc)⟩ := by kernel_rfl
theorem ty75 : tyd Try.prog 75 = some ⟨1, 8, false, .func #[3] #[9] false, some (Value.nilFunc)⟩ := by kernel_rfl
theorem ty76 : tyd Try.prog 76 = some ⟨1, 8, false, .func #[38] #[9] false, some (Value.nilFunc)⟩ := by kernel_rfl
theorem ty77 : tyd Try.prog 77 = some ⟨1, 8, false, .func #[98] #[] false, some (Value.nilFunc)⟩ := by kernel_rfl
theorem ty78 : tyd Try.prog 78 = some ⟨1, 8, false, .func #[98] #[] false, some (Value.nilFunc)⟩ := by kernel_rfl
theorem ty79 : tyd Try.prog 79 = some ⟨1, 8, false, .func #[78] #[78] false, some (Value.nilFunc)⟩ := by kernel_rfl
theorem ty80 : tyd Try.prog 80 = some ⟨1, 8, false, .func #[32, 38] #[78] false, some (Value.nilFunc)⟩ := by kernel_rfl
theorem ty81 : tyd Try.prog 81 = some ⟨1, 24, false, .slice 83, some (Value.slice none 0 0)⟩ := by kernel_rfl
theorem ty82 : tyd Try.prog 82 = some ⟨2, 16, true, .struct #[{ name := "far", type := 38, offset := 0, embedded := false, tag := "", pkgPath := "trefoil/trefoilref16", byteOffset := 0 }, { name := "node", type := 3, offset := 1, embedded := false, tag := "", pkgPath := "trefoil/trefoilref16", byteOffset := 8 }], some (Value.agg #[Value.int .u64 0, Value.int .i64 0])⟩ := by kernel_rfl
theorem ty83 : tyd Try.prog 83 = some ⟨2, 16, true, .struct #[{ name := "far", type := 38, offset := 0, embedded := false, tag := "", pkgPath := "trefoil/trefoilref16", byteOffset := 0 }, { name := "node", type := 3, offset := 1, embedded := false, tag := "", pkgPath := "trefoil/trefoilref16", byteOffset := 8 }], some (Value.agg #[Value.int .u64 0, Value.int .i64 0])⟩ := by kernel_rfl
theorem ty84 : tyd Try.prog 84 = some ⟨1, 8, false, .func #[32, 32] #[32] false, some (Value.nilFunc)⟩ := by kernel_rfl
theorem ty85 : tyd Try.prog 85 = some ⟨1, 8, false, .func #[3, 3] #[3] false, some (Value.nilFunc)⟩ := by kernel_rfl
theorem ty86 : tyd Try.prog 86 = some ⟨1, 8, false, .func #[106] #[] false, some (Value.nilFunc)⟩ := by kernel_rfl
theorem ty87 : tyd Try.prog 87 = some ⟨1, 8, false, .func #[106] #[] false, some (Value.nilFunc)⟩ := by kernel_rfl
theorem ty88 : tyd Try.prog 88 = some ⟨1, 24, false, .slice 9, some (Value.slice none 0 0)⟩ := by kernel_rfl
theorem ty89 : tyd Try.prog 89 = some ⟨1, 8, false, .func #[] #[87] false, some (Value.nilFunc)⟩ := by kernel_rfl
theorem ty90 : tyd Try.prog 90 = some ⟨1, 0, false, .tuple #[3, 4], some (Value.tuple #[Value.int .i64 0, Value.bool false])⟩ := by kernel_rfl
theorem ty91 : tyd Try.prog 91 = some ⟨1, 8, false, .func #[23, 57, 62] #[3, 4] false, some (Value.nilFunc)⟩ := by kernel_rfl
theorem ty92 : tyd Try.prog 92 = some ⟨1, 8, false, .func #[23, 3, 23] #[23] true, some (Value.nilFunc)⟩ := by kernel_rfl
theorem ty93 : tyd Try.prog 93 = some ⟨1, 8, false, .func #[9, 9] #[3] false, some (Value.nilFunc)⟩ := by kernel_rfl
theorem ty94 : tyd Try.prog 94 = some ⟨1, 8, false, .func #[38] #[4] false, some (Value.nilFunc)⟩ := by kernel_rfl
theorem ty95 : tyd Try.prog 95 = some ⟨1, 8, false, .func #[22, 53, 54] #[3, 4] false, some (Value.nilFunc)⟩ := by kernel_rfl
theorem ty96 : tyd Try.prog 96 = some ⟨1, 8, false, .func #[22, 3, 22] #[22] true, some (Value.nilFunc)⟩ := by kernel_rfl
theorem ty97 : tyd Try.prog 97 = some ⟨1, 24, false, .slice 5, some (Value.slice none 0 0)⟩ := by kernel_rfl
theorem ty98 : tyd Try.prog 98 = some ⟨1, 8, false, .func #[3] #[4] false, some (Value.nilFunc)⟩ := by kernel_rfl
theorem ty99 : tyd Try.prog 99 = some ⟨1, 8, false, .map 3 4, some (Value.map none)⟩ := by kernel_rfl
theorem ty100 : tyd Try.prog 100 = some ⟨1, 24, false, .slice 102, some (Value.slice none 0 0)⟩ := by kernel_rfl
theorem ty101 : tyd Try.prog 101 = some ⟨2, 16, true, .struct #[{ name := "at", type := 38, offset := 0, embedded := false, tag := "", pkgPath := "trefoil/ring", byteOffset := 0 }, { name := "node", type := 3, offset := 1, embedded := false, tag := "", pkgPath := "trefoil/ring", byteOffset := 8 }], some (Value.agg #[Value.int .u64 0, Value.int .i64 0])⟩ := by kernel_rfl
theorem ty102 : tyd Try.prog 102 = some ⟨2, 16, true, .struct #[{ name := "at", type := 38, offset := 0, embedded := false, tag := "", pkgPath := "trefoil/ring", byteOffset := 0 }, { name := "node", type := 3, offset := 1, embedded := false, tag := "", pkgPath := "trefoil/ring", byteOffset := 8 }], some (Value.agg #[Value.int .u64 0, Value.int .i64 0])⟩ := by kernel_rfl
theorem ty103 : tyd Try.prog 103 = some ⟨1, 8, false, .func #[100, 104] #[] false, some (Value.nilFunc)⟩ := by kernel_rfl
theorem ty104 : tyd Try.prog 104 = some ⟨1, 8, false, .func #[102, 102] #[3] false, some (Value.nilFunc)⟩ := by kernel_rfl
theorem ty105 : tyd Try.prog 105 = some ⟨1, 8, false, .func #[32, 3] #[3] false, some (Value.nilFunc)⟩ := by kernel_rfl
theorem ty106 : tyd Try.prog 106 = some ⟨1, 8, false, .func #[9, 9] #[4] false, some (Value.nilFunc)⟩ := by kernel_rfl
theorem ty107 : tyd Try.prog 107 = some ⟨1, 8, false, .func #[23, 3] #[] false, some (Value.nilFunc)⟩ := by kernel_rfl
theorem ty108 : tyd Try.prog 108 = some ⟨1, 8, false, .func #[22, 3] #[] false, some (Value.nilFunc)⟩ := by kernel_rfl
theorem ty109 : tyd Try.prog 109 = some ⟨1, 8, false, .func #[100, 3, 3, 3, 104] #[] false, some (Value.nilFunc)⟩ := by kernel_rfl
theorem ty110 : tyd Try.prog 110 = some ⟨1, 8, false, .func #[44] #[3] false, some (Value.nilFunc)⟩ := by kernel_rfl
theorem ty111 : tyd Try.prog 111 = some ⟨1, 8, false, .func #[100, 3, 3, 104] #[] false, some (Value.nilFunc)⟩ := by kernel_rfl
theorem ty112 : tyd Try.prog 112 = some ⟨1, 8, false, .int .i64, some (Value.int .i64 0)⟩ := by kernel_rfl
theorem ty113 : tyd Try.prog 113 = some ⟨1, 0, false, .tuple #[3, 112], some (Value.tuple #[Value.int .i64 0, Value.int .i64 0])⟩ := by kernel_rfl
theorem ty114 : tyd Try.prog 114 = some ⟨1, 8, false, .func #[100, 3, 3, 104] #[3, 112] false, some (Value.nilFunc)⟩ := by kernel_rfl
theorem ty115 : tyd Try.prog 115 = some ⟨1, 8, false, .func #[100, 3, 3, 104] #[4] false, some (Value.nilFunc)⟩ := by kernel_rfl
theorem ty116 : tyd Try.prog 116 = some ⟨1, 8, false, .func #[100, 3, 3, 3, 104] #[3] false, some (Value.nilFunc)⟩ := by kernel_rfl
theorem ty117 : tyd Try.prog 117 = some ⟨1, 8, false, .func #[100, 3, 3, 3, 104] #[3, 4] false, some (Value.nilFunc)⟩ := by kernel_rfl
theorem ty118 : tyd Try.prog 118 = some ⟨1, 8, false, .func #[119] #[3] false, some (Value.nilFunc)⟩ := by kernel_rfl
theorem ty119 : tyd Try.prog 119 = some ⟨1, 4, false, .int .u32, some (Value.int .u32 0)⟩ := by kernel_rfl
theorem ty120 : tyd Try.prog 120 = some ⟨1, 8, false, .func #[38] #[3] false, some (Value.nilFunc)⟩ := by kernel_rfl
theorem ty121 : tyd Try.prog 121 = some ⟨1, 8, false, .func #[23] #[] false, some (Value.nilFunc)⟩ := by kernel_rfl
theorem ty122 : tyd Try.prog 122 = some ⟨1, 8, false, .func #[22] #[] false, some (Value.nilFunc)⟩ := by kernel_rfl
theorem ty123 : tyd Try.prog 123 = some ⟨1, 8, false, .int .u64, some (Value.int .u64 0)⟩ := by kernel_rfl
theorem ty124 : tyd Try.prog 124 = some ⟨1, 8, false, .func #[3] #[44] false, some (Value.nilFunc)⟩ := by kernel_rfl
theorem ty125 : tyd Try.prog 125 = some ⟨1, 8, false, .func #[] #[38] false, some (Value.nilFunc)⟩ := by kernel_rfl
theorem ty126 : tyd Try.prog 126 = some ⟨1, 8, false, .func #[100, 3, 127, 104] #[3] false, some (Value.nilFunc)⟩ := by kernel_rfl
theorem ty127 : tyd Try.prog 127 = some ⟨1, 8, false, .pointer 3, some (Value.pointer none)⟩ := by kernel_rfl
theorem ty128 : tyd Try.prog 128 = some ⟨1, 8, false, .func #[100, 3, 3, 3, 127, 104] #[3] false, some (Value.nilFunc)⟩ := by kernel_rfl
theorem ty129 : tyd Try.prog 129 = some ⟨1, 8, false, .pointer 123, some (Value.pointer none)⟩ := by kernel_rfl
theorem ty130 : tyd Try.prog 130 = some ⟨1, 0, false, .tuple #[3, 3], some (Value.tuple #[Value.int .i64 0, Value.int .i64 0])⟩ := by kernel_rfl
theorem ty131 : tyd Try.prog 131 = some ⟨1, 8, false, .func #[100, 3, 3, 127, 104] #[3, 3] false, some (Value.nilFunc)⟩ := by kernel_rfl
theorem ty132 : tyd Try.prog 132 = some ⟨1, 8, false, .func #[] #[9] false, some (Value.nilFunc)⟩ := by kernel_rfl
theorem ty133 : tyd Try.prog 133 = some ⟨4, 40, true, .struct #[{ name := "_interface", type := 17, offset := 0, embedded := false, tag := "", pkgPath := "runtime", byteOffset := 0 }, { name := "concrete", type := 17, offset := 1, embedded := false, tag := "", pkgPath := "runtime", byteOffset := 8 }, { name := "asserted", type := 17, offset := 2, embedded := false, tag := "", pkgPath := "runtime", byteOffset := 16 }, { name := "missingMethod", type := 9, offset := 3, embedded := false, tag := "", pkgPath := "runtime", byteOffset := 24 }], some (Value.agg #[Value.pointer none, Value.pointer none, Value.pointer none, Value.string ByteArray.empty])⟩ := by kernel_rfl
theorem ty134 : tyd Try.prog 134 = some ⟨4, 40, true, .struct #[{ name := "_interface", type := 17, offset := 0, embedded := false, tag := "", pkgPath := "runtime", byteOffset := 0 }, { name := "concrete", type := 17, offset := 1, embedded := false, tag := "", pkgPath := "runtime", byteOffset := 8 }, { name := "asserted", type := 17, offset := 2, embedded := false, tag := "", pkgPath := "runtime", byteOffset := 16 }, { name := "missingMethod", type := 9, offset := 3, embedded := false, tag := "", pkgPath := "runtime", byteOffset := 24 }], some (Value.agg #[Value.pointer none, Value.pointer none, Value.pointer none, Value.string ByteArray.empty])⟩ := by kernel_rfl
theorem ty135 : tyd Try.prog 135 = some ⟨0, 0, true, .array 0 16, some (Value.agg #[])⟩ := by kernel_rfl
theorem ty136 : tyd Try.prog 136 = some ⟨0, 0, true, .struct #[{ name := "_", type := 135, offset := 0, embedded := false, tag := "", pkgPath := "runtime", byteOffset := 0 }], some (Value.agg #[])⟩ := by kernel_rfl
theorem ty137 : tyd Try.prog 137 = some ⟨0, 0, true, .struct #[{ name := "_", type := 135, offset := 0, embedded := false, tag := "", pkgPath := "runtime", byteOffset := 0 }], some (Value.agg #[])⟩ := by kernel_rfl
theorem ty138 : tyd Try.prog 138 = some ⟨1, 8, false, .func #[] #[3] false, some (Value.nilFunc)⟩ := by kernel_rfl
theorem ty139 : tyd Try.prog 139 = some ⟨1, 1, false, .int .u8, some (Value.int .u8 0)⟩ := by kernel_rfl
theorem ty140 : tyd Try.prog 140 = some ⟨1, 1, false, .int .u8, some (Value.int .u8 0)⟩ := by kernel_rfl
theorem ty141 : tyd Try.prog 141 = some ⟨1, 8, false, .func #[148, 148] #[4] false, some (Value.nilFunc)⟩ := by kernel_rfl
theorem ty142 : tyd Try.prog 142 = some ⟨1, 8, false, .pointer 5, some (Value.pointer none)⟩ := by kernel_rfl
theorem ty143 : tyd Try.prog 143 = some ⟨1, 4, false, .int .i32, some (Value.int .i32 0)⟩ := by kernel_rfl
theorem ty144 : tyd Try.prog 144 = some ⟨1, 4, false, .int .i32, some (Value.int .i32 0)⟩ := by kernel_rfl
theorem ty145 : tyd Try.prog 145 = some ⟨11, 48, true, .struct #[{ name := "Size_", type := 12, offset := 0, embedded := false, tag := "", pkgPath := "", byteOffset := 0 }, { name := "PtrBytes", type := 12, offset := 1, embedded := false, tag := "", pkgPath := "", byteOffset := 8 }, { name := "Hash", type := 119, offset := 2, embedded := false, tag := "", pkgPath := "", byteOffset := 16 }, { name := "TFlag", type := 139, offset := 3, embedded := false, tag := "", pkgPath := "", byteOffset := 20 }, { name := "Align_", type := 5, offset := 4, embedded := false, tag := "", pkgPath := "", byteOffset := 21 }, { name := "FieldAlign_", type := 5, offset := 5, embedded := false, tag := "", pkgPath := "", byteOffset := 22 }, { name := "Kind_", type := 140, offset := 6, embedded := false, tag := "", pkgPath := "", byteOffset := 23 }, { name := "Equal", type := 141, offset := 7, embedded := false, tag := "", pkgPath := "", byteOffset := 24 }, { name := "GCData", type := 142, offset := 8, embedded := false, tag := "", pkgPath := "", byteOffset := 32 }, { name := "Str", type := 143, offset := 9, embedded := false, tag := "", pkgPath := "", byteOffset := 40 }, { name := "PtrToThis", type := 144, offset := 10, embedded := false, tag := "", pkgPath := "", byteOffset := 44 }], some (Value.agg #[Value.int .u64 0, Value.int .u64 0, Value.int .u32 0, Value.int .u8 0, Value.int .u8 0, Value.int .u8 0, Value.int .u8 0, Value.nilFunc, Value.pointer none, Value.int .i32 0, Value.int .i32 0])⟩ := by kernel_rfl
theorem ty146 : tyd Try.prog 146 = some ⟨11, 48, true, .struct #[{ name := "Size_", type := 12, offset := 0, embedded := false, tag := "", pkgPath := "", byteOffset := 0 }, { name := "PtrBytes", type := 12, offset := 1, embedded := false, tag := "", pkgPath := "", byteOffset := 8 }, { name := "Hash", type := 119, offset := 2, embedded := false, tag := "", pkgPath := "", byteOffset := 16 }, { name := "TFlag", type := 139, offset := 3, embedded := false, tag := "", pkgPath := "", byteOffset := 20 }, { name := "Align_", type := 5, offset := 4, embedded := false, tag := "", pkgPath := "", byteOffset := 21 }, { name := "FieldAlign_", type := 5, offset := 5, embedded := false, tag := "", pkgPath := "", byteOffset := 22 }, { name := "Kind_", type := 140, offset := 6, embedded := false, tag := "", pkgPath := "", byteOffset := 23 }, { name := "Equal", type := 141, offset := 7, embedded := false, tag := "", pkgPath := "", byteOffset := 24 }, { name := "GCData", type := 142, offset := 8, embedded := false, tag := "", pkgPath := "", byteOffset := 32 }, { name := "Str", type := 143, offset := 9, embedded := false, tag := "", pkgPath := "", byteOffset := 40 }, { name := "PtrToThis", type := 144, offset := 10, embedded := false, tag := "", pkgPath := "", byteOffset := 44 }], some (Value.agg #[Value.int .u64 0, Value.int .u64 0, Value.int .u32 0, Value.int .u8 0, Value.int .u8 0, Value.int .u8 0, Value.int .u8 0, Value.nilFunc, Value.pointer none, Value.int .i32 0, Value.int .i32 0])⟩ := by kernel_rfl
theorem ty147 : tyd Try.prog 147 = some ⟨1, 8, false, .func #[9] #[3, 4] false, some (Value.nilFunc)⟩ := by kernel_rfl
theorem ty148 : tyd Try.prog 148 = some ⟨1, 8, false, .unsafePointer, some (Value.pointer none)⟩ := by kernel_rfl
theorem tyeq7 : eqOK Try.prog 7 = true := by kernel_rfl
theorem tyeq8 : eqOK Try.prog 8 = true := by kernel_rfl
theorem tyeq52 : eqOK Try.prog 52 = true := by kernel_rfl
theorem tyeq53 : eqOK Try.prog 53 = true := by kernel_rfl
theorem tyeq56 : eqOK Try.prog 56 = true := by kernel_rfl
theorem tyeq57 : eqOK Try.prog 57 = true := by kernel_rfl
theorem tyeq82 : eqOK Try.prog 82 = true := by kernel_rfl
theorem tyeq83 : eqOK Try.prog 83 = true := by kernel_rfl
theorem tyeq101 : eqOK Try.prog 101 = true := by kernel_rfl
theorem tyeq102 : eqOK Try.prog 102 = true := by kernel_rfl
set_option linter.defProp false
def tys0 := And.intro ty0 <| And.intro ty1 <| And.intro ty2 <| And.intro ty3 <| And.intro ty4 <| And.intro ty5 <| And.intro ty6 <| And.intro ty7 <| And.intro ty8 <| And.intro ty9 <| And.intro ty10 <| And.intro ty11 <| And.intro ty12 <| And.intro ty13 <| And.intro ty14 <| And.intro ty15 <| And.intro ty16 <| And.intro ty17 <| And.intro ty18 <| And.intro ty19 <| And.intro ty20 <| And.intro ty21 <| And.intro ty22 <| And.intro ty23 <| And.intro ty24 <| And.intro ty25 <| And.intro ty26 <| And.intro ty27 <| And.intro ty28 <| ty29
def tys1 := And.intro ty30 <| And.intro ty31 <| And.intro ty32 <| And.intro ty33 <| And.intro ty34 <| And.intro ty35 <| And.intro ty36 <| And.intro ty37 <| And.intro ty38 <| And.intro ty39 <| And.intro ty40 <| And.intro ty41 <| And.intro ty42 <| And.intro ty43 <| And.intro ty44 <| And.intro ty45 <| And.intro ty46 <| And.intro ty47 <| And.intro ty48 <| And.intro ty49 <| And.intro ty50 <| And.intro ty51 <| And.intro ty52 <| And.intro ty53 <| And.intro ty54 <| And.intro ty55 <| And.intro ty56 <| And.intro ty57 <| And.intro ty58 <| ty59
def tys2 := And.intro ty60 <| And.intro ty61 <| And.intro ty62 <| And.intro ty63 <| And.intro ty64 <| And.intro ty65 <| And.intro ty66 <| And.intro ty67 <| And.intro ty68 <| And.intro ty69 <| And.intro ty70 <| And.intro ty71 <| And.intro ty72 <| And.intro ty73 <| And.intro ty74 <| And.intro ty75 <| And.intro ty76 <| And.intro ty77 <| And.intro ty78 <| And.intro ty79 <| And.intro ty80 <| And.intro ty81 <| And.intro ty82 <| And.intro ty83 <| And.intro ty84 <| And.intro ty85 <| And.intro ty86 <| And.intro ty87 <| And.intro ty88 <| ty89
def tys3 := And.intro ty90 <| And.intro ty91 <| And.intro ty92 <| And.intro ty93 <| And.intro ty94 <| And.intro ty95 <| And.intro ty96 <| And.intro ty97 <| And.intro ty98 <| And.intro ty99 <| And.intro ty100 <| And.intro ty101 <| And.intro ty102 <| And.intro ty103 <| And.intro ty104 <| And.intro ty105 <| And.intro ty106 <| And.intro ty107 <| And.intro ty108 <| And.intro ty109 <| And.intro ty110 <| And.intro ty111 <| And.intro ty112 <| And.intro ty113 <| And.intro ty114 <| And.intro ty115 <| And.intro ty116 <| And.intro ty117 <| And.intro ty118 <| ty119
def tys4 := And.intro ty120 <| And.intro ty121 <| And.intro ty122 <| And.intro ty123 <| And.intro ty124 <| And.intro ty125 <| And.intro ty126 <| And.intro ty127 <| And.intro ty128 <| And.intro ty129 <| And.intro ty130 <| And.intro ty131 <| And.intro ty132 <| And.intro ty133 <| And.intro ty134 <| And.intro ty135 <| And.intro ty136 <| And.intro ty137 <| And.intro ty138 <| And.intro ty139 <| And.intro ty140 <| And.intro ty141 <| And.intro ty142 <| And.intro ty143 <| And.intro ty144 <| And.intro ty145 <| And.intro ty146 <| And.intro ty147 <| And.intro ty148 <| tyeq7
def tys5 := And.intro tyeq8 <| And.intro tyeq52 <| And.intro tyeq53 <| And.intro tyeq56 <| And.intro tyeq57 <| And.intro tyeq82 <| And.intro tyeq83 <| And.intro tyeq101 <| tyeq102
def tys := And.intro tys0 <| And.intro tys1 <| And.intro tys2 <| And.intro tys3 <| And.intro tys4 <| tys5
end Go.Proofs.Ytlcajocjiehplaa
