/- The table of this translation's types, printed by gen_types.py. Nothing is claimed here. -/
import Derived.Test.YtjafamiaahabgaaDoorVV
import Derived.Test.YtjafamiaahabgaaDoorChecked
namespace Go.Proofs.YtjafamiaahabgaaDoor
set_option maxRecDepth 20000
theorem ty2 : TdOk Tryd.prog 2 ⟨.int .i64, 1, 8, .int .i64 0⟩ := ⟨by kernel_rfl, by kernel_rfl⟩
theorem ty3 : TdOk Tryd.prog 3 ⟨.int .i64, 1, 8, .int .i64 0⟩ := ⟨by kernel_rfl, by kernel_rfl⟩
theorem ty4 : TdOk Tryd.prog 4 ⟨.bool, 1, 1, .bool false⟩ := ⟨by kernel_rfl, by kernel_rfl⟩
theorem ty5 : TdOk Tryd.prog 5 ⟨.int .u8, 1, 1, .int .u8 0⟩ := ⟨by kernel_rfl, by kernel_rfl⟩
theorem ty6 : TdOk Tryd.prog 6 ⟨.int .u8, 1, 1, .int .u8 0⟩ := ⟨by kernel_rfl, by kernel_rfl⟩
theorem ty12 : TdOk Tryd.prog 12 ⟨.int .u64, 1, 8, .int .u64 0⟩ := ⟨by kernel_rfl, by kernel_rfl⟩
theorem ty21 : TdOk Tryd.prog 21 ⟨.int .i32, 1, 4, .int .i32 0⟩ := ⟨by kernel_rfl, by kernel_rfl⟩
theorem ty22 : TdOk Tryd.prog 22 ⟨.slice 23, 1, 24, .slice none 0 0⟩ := ⟨by kernel_rfl, by kernel_rfl⟩
theorem ty23 : TdOk Tryd.prog 23 ⟨.slice 5, 1, 24, .slice none 0 0⟩ := ⟨by kernel_rfl, by kernel_rfl⟩
theorem ty25 : TdOk Tryd.prog 25 ⟨.int .i64, 1, 8, .int .i64 0⟩ := ⟨by kernel_rfl, by kernel_rfl⟩
theorem ty45 : TdOk Tryd.prog 45 ⟨.slice 54, 1, 24, .slice none 0 0⟩ := ⟨by kernel_rfl, by kernel_rfl⟩
theorem ty48 : TdOk Tryd.prog 48 ⟨.slice 9, 1, 24, .slice none 0 0⟩ := ⟨by kernel_rfl, by kernel_rfl⟩
theorem ty55 : TdOk Tryd.prog 55 ⟨.slice 3, 1, 24, .slice none 0 0⟩ := ⟨by kernel_rfl, by kernel_rfl⟩
theorem ty61 : TdOk Tryd.prog 61 ⟨.int .u64, 1, 8, .int .u64 0⟩ := ⟨by kernel_rfl, by kernel_rfl⟩
theorem ty86 : TdOk Tryd.prog 86 ⟨.int .u32, 1, 4, .int .u32 0⟩ := ⟨by kernel_rfl, by kernel_rfl⟩
theorem ty88 : TdOk Tryd.prog 88 ⟨.int .u64, 1, 8, .int .u64 0⟩ := ⟨by kernel_rfl, by kernel_rfl⟩
theorem ty123 : TdOk Tryd.prog 123 ⟨.int .i64, 1, 8, .int .i64 0⟩ := ⟨by kernel_rfl, by kernel_rfl⟩
theorem ty138 : TdOk Tryd.prog 138 ⟨.int .u64, 1, 8, .int .u64 0⟩ := ⟨by kernel_rfl, by kernel_rfl⟩
theorem ty157 : TdOk Tryd.prog 157 ⟨.int .u8, 1, 1, .int .u8 0⟩ := ⟨by kernel_rfl, by kernel_rfl⟩
theorem ty158 : TdOk Tryd.prog 158 ⟨.int .u8, 1, 1, .int .u8 0⟩ := ⟨by kernel_rfl, by kernel_rfl⟩
theorem ty160 : TdOk Tryd.prog 160 ⟨.int .i32, 1, 4, .int .i32 0⟩ := ⟨by kernel_rfl, by kernel_rfl⟩
theorem ty161 : TdOk Tryd.prog 161 ⟨.int .i32, 1, 4, .int .i32 0⟩ := ⟨by kernel_rfl, by kernel_rfl⟩
theorem ty1 : TdOk Tryd.prog 1 ⟨.func, 1, 8, .nilFunc⟩ := ⟨by kernel_rfl, by kernel_rfl⟩
theorem ty7 : TdOk Tryd.prog 7 ⟨.struct [(0, 2), (1, 3), (2, 4), (3, 6)], 4, 24, .agg #[.int .i64 0, .int .i64 0, .bool false, .int .u8 0]⟩ := ⟨by kernel_rfl, by kernel_rfl⟩
theorem ty8 : TdOk Tryd.prog 8 ⟨.struct [(0, 2), (1, 3), (2, 4), (3, 6)], 4, 24, .agg #[.int .i64 0, .int .i64 0, .bool false, .int .u8 0]⟩ := ⟨by kernel_rfl, by kernel_rfl⟩
theorem ty9 : TdOk Tryd.prog 9 ⟨.str, 1, 16, .string ByteArray.empty⟩ := ⟨by kernel_rfl, by kernel_rfl⟩
theorem ty10 : TdOk Tryd.prog 10 ⟨.str, 1, 16, .string ByteArray.empty⟩ := ⟨by kernel_rfl, by kernel_rfl⟩
theorem ty11 : TdOk Tryd.prog 11 ⟨.str, 1, 16, .string ByteArray.empty⟩ := ⟨by kernel_rfl, by kernel_rfl⟩
theorem ty13 : TdOk Tryd.prog 13 ⟨.struct [(0, 9), (1, 12)], 2, 24, .agg #[.string ByteArray.empty, .int .u64 0]⟩ := ⟨by kernel_rfl, by kernel_rfl⟩
theorem ty14 : TdOk Tryd.prog 14 ⟨.struct [(0, 9), (1, 12)], 2, 24, .agg #[.string ByteArray.empty, .int .u64 0]⟩ := ⟨by kernel_rfl, by kernel_rfl⟩
theorem ty15 : TdOk Tryd.prog 15 ⟨.ptr 153, 1, 8, .pointer none⟩ := ⟨by kernel_rfl, by kernel_rfl⟩
theorem ty16 : TdOk Tryd.prog 16 ⟨.ptr 156, 1, 8, .pointer none⟩ := ⟨by kernel_rfl, by kernel_rfl⟩
theorem ty17 : TdOk Tryd.prog 17 ⟨.ptr 163, 1, 8, .pointer none⟩ := ⟨by kernel_rfl, by kernel_rfl⟩
theorem ty18 : TdOk Tryd.prog 18 ⟨.struct [(0, 17)], 1, 8, .agg #[.pointer none]⟩ := ⟨by kernel_rfl, by kernel_rfl⟩
theorem ty19 : TdOk Tryd.prog 19 ⟨.struct [(0, 17)], 1, 8, .agg #[.pointer none]⟩ := ⟨by kernel_rfl, by kernel_rfl⟩
theorem ty20 : TdOk Tryd.prog 20 ⟨.iface, 1, 16, .nilIface⟩ := ⟨by kernel_rfl, by kernel_rfl⟩
theorem ty24 : TdOk Tryd.prog 24 ⟨.ptr 44, 1, 8, .pointer none⟩ := ⟨by kernel_rfl, by kernel_rfl⟩
theorem ty27 : TdOk Tryd.prog 27 ⟨.func, 1, 8, .nilFunc⟩ := ⟨by kernel_rfl, by kernel_rfl⟩
theorem ty28 : TdOk Tryd.prog 28 ⟨.ptr 47, 1, 8, .pointer none⟩ := ⟨by kernel_rfl, by kernel_rfl⟩
theorem ty30 : TdOk Tryd.prog 30 ⟨.func, 1, 8, .nilFunc⟩ := ⟨by kernel_rfl, by kernel_rfl⟩
theorem ty31 : TdOk Tryd.prog 31 ⟨.func, 1, 8, .nilFunc⟩ := ⟨by kernel_rfl, by kernel_rfl⟩
theorem ty33 : TdOk Tryd.prog 33 ⟨.func, 1, 8, .nilFunc⟩ := ⟨by kernel_rfl, by kernel_rfl⟩
theorem ty34 : TdOk Tryd.prog 34 ⟨.func, 1, 8, .nilFunc⟩ := ⟨by kernel_rfl, by kernel_rfl⟩
theorem ty36 : TdOk Tryd.prog 36 ⟨.func, 1, 8, .nilFunc⟩ := ⟨by kernel_rfl, by kernel_rfl⟩
theorem ty38 : TdOk Tryd.prog 38 ⟨.func, 1, 8, .nilFunc⟩ := ⟨by kernel_rfl, by kernel_rfl⟩
theorem ty39 : TdOk Tryd.prog 39 ⟨.func, 1, 8, .nilFunc⟩ := ⟨by kernel_rfl, by kernel_rfl⟩
theorem ty40 : TdOk Tryd.prog 40 ⟨.func, 1, 8, .nilFunc⟩ := ⟨by kernel_rfl, by kernel_rfl⟩
theorem ty41 : TdOk Tryd.prog 41 ⟨.func, 1, 8, .nilFunc⟩ := ⟨by kernel_rfl, by kernel_rfl⟩
theorem ty42 : TdOk Tryd.prog 42 ⟨.map 9 67, 1, 8, .map none⟩ := ⟨by kernel_rfl, by kernel_rfl⟩
theorem ty43 : TdOk Tryd.prog 43 ⟨.struct [(0, 3), (1, 3), (2, 42)], 3, 24, .agg #[.int .i64 0, .int .i64 0, .map none]⟩ := ⟨by kernel_rfl, by kernel_rfl⟩
theorem ty44 : TdOk Tryd.prog 44 ⟨.struct [(0, 3), (1, 3), (2, 42)], 3, 24, .agg #[.int .i64 0, .int .i64 0, .map none]⟩ := ⟨by kernel_rfl, by kernel_rfl⟩
theorem ty46 : TdOk Tryd.prog 46 ⟨.struct [(0, 24), (1, 9), (2, 45), (3, 3)], 4, 56, .agg #[.pointer none, .string ByteArray.empty, .slice none 0 0, .int .i64 0]⟩ := ⟨by kernel_rfl, by kernel_rfl⟩
theorem ty47 : TdOk Tryd.prog 47 ⟨.struct [(0, 24), (1, 9), (2, 45), (3, 3)], 4, 56, .agg #[.pointer none, .string ByteArray.empty, .slice none 0 0, .int .i64 0]⟩ := ⟨by kernel_rfl, by kernel_rfl⟩
theorem ty49 : TdOk Tryd.prog 49 ⟨.func, 1, 8, .nilFunc⟩ := ⟨by kernel_rfl, by kernel_rfl⟩
theorem ty51 : TdOk Tryd.prog 51 ⟨.func, 1, 8, .nilFunc⟩ := ⟨by kernel_rfl, by kernel_rfl⟩
theorem ty52 : TdOk Tryd.prog 52 ⟨.func, 1, 8, .nilFunc⟩ := ⟨by kernel_rfl, by kernel_rfl⟩
theorem ty53 : TdOk Tryd.prog 53 ⟨.func, 1, 8, .nilFunc⟩ := ⟨by kernel_rfl, by kernel_rfl⟩
theorem ty54 : TdOk Tryd.prog 54 ⟨.ptr 57, 1, 8, .pointer none⟩ := ⟨by kernel_rfl, by kernel_rfl⟩
theorem ty56 : TdOk Tryd.prog 56 ⟨.struct [(0, 3), (1, 22), (2, 55), (3, 4)], 4, 64, .agg #[.int .i64 0, .slice none 0 0, .slice none 0 0, .bool false]⟩ := ⟨by kernel_rfl, by kernel_rfl⟩
theorem ty57 : TdOk Tryd.prog 57 ⟨.struct [(0, 3), (1, 22), (2, 55), (3, 4)], 4, 64, .agg #[.int .i64 0, .slice none 0 0, .slice none 0 0, .bool false]⟩ := ⟨by kernel_rfl, by kernel_rfl⟩
theorem ty58 : TdOk Tryd.prog 58 ⟨.func, 1, 8, .nilFunc⟩ := ⟨by kernel_rfl, by kernel_rfl⟩
theorem ty59 : TdOk Tryd.prog 59 ⟨.func, 1, 8, .nilFunc⟩ := ⟨by kernel_rfl, by kernel_rfl⟩
theorem ty60 : TdOk Tryd.prog 60 ⟨.func, 1, 8, .nilFunc⟩ := ⟨by kernel_rfl, by kernel_rfl⟩
theorem ty62 : TdOk Tryd.prog 62 ⟨.func, 1, 8, .nilFunc⟩ := ⟨by kernel_rfl, by kernel_rfl⟩
theorem ty63 : TdOk Tryd.prog 63 ⟨.func, 1, 8, .nilFunc⟩ := ⟨by kernel_rfl, by kernel_rfl⟩
theorem ty64 : TdOk Tryd.prog 64 ⟨.func, 1, 8, .nilFunc⟩ := ⟨by kernel_rfl, by kernel_rfl⟩
theorem ty65 : TdOk Tryd.prog 65 ⟨.func, 1, 8, .nilFunc⟩ := ⟨by kernel_rfl, by kernel_rfl⟩
theorem ty66 : TdOk Tryd.prog 66 ⟨.struct [(0, 23), (1, 3)], 2, 32, .agg #[.slice none 0 0, .int .i64 0]⟩ := ⟨by kernel_rfl, by kernel_rfl⟩
theorem ty67 : TdOk Tryd.prog 67 ⟨.struct [(0, 23), (1, 3)], 2, 32, .agg #[.slice none 0 0, .int .i64 0]⟩ := ⟨by kernel_rfl, by kernel_rfl⟩
theorem ty68 : TdOk Tryd.prog 68 ⟨.func, 1, 8, .nilFunc⟩ := ⟨by kernel_rfl, by kernel_rfl⟩
theorem ty69 : TdOk Tryd.prog 69 ⟨.func, 1, 8, .nilFunc⟩ := ⟨by kernel_rfl, by kernel_rfl⟩
theorem ty70 : TdOk Tryd.prog 70 ⟨.func, 1, 8, .nilFunc⟩ := ⟨by kernel_rfl, by kernel_rfl⟩
theorem ty71 : TdOk Tryd.prog 71 ⟨.func, 1, 8, .nilFunc⟩ := ⟨by kernel_rfl, by kernel_rfl⟩
theorem ty72 : TdOk Tryd.prog 72 ⟨.func, 1, 8, .nilFunc⟩ := ⟨by kernel_rfl, by kernel_rfl⟩
theorem ty73 : TdOk Tryd.prog 73 ⟨.func, 1, 8, .nilFunc⟩ := ⟨by kernel_rfl, by kernel_rfl⟩
theorem ty75 : TdOk Tryd.prog 75 ⟨.func, 1, 8, .nilFunc⟩ := ⟨by kernel_rfl, by kernel_rfl⟩
theorem ty77 : TdOk Tryd.prog 77 ⟨.func, 1, 8, .nilFunc⟩ := ⟨by kernel_rfl, by kernel_rfl⟩
theorem ty78 : TdOk Tryd.prog 78 ⟨.func, 1, 8, .nilFunc⟩ := ⟨by kernel_rfl, by kernel_rfl⟩
theorem ty80 : TdOk Tryd.prog 80 ⟨.func, 1, 8, .nilFunc⟩ := ⟨by kernel_rfl, by kernel_rfl⟩
theorem ty82 : TdOk Tryd.prog 82 ⟨.func, 1, 8, .nilFunc⟩ := ⟨by kernel_rfl, by kernel_rfl⟩
theorem ty83 : TdOk Tryd.prog 83 ⟨.func, 1, 8, .nilFunc⟩ := ⟨by kernel_rfl, by kernel_rfl⟩
theorem ty84 : TdOk Tryd.prog 84 ⟨.func, 1, 8, .nilFunc⟩ := ⟨by kernel_rfl, by kernel_rfl⟩
theorem ty85 : TdOk Tryd.prog 85 ⟨.func, 1, 8, .nilFunc⟩ := ⟨by kernel_rfl, by kernel_rfl⟩
theorem ty87 : TdOk Tryd.prog 87 ⟨.func, 1, 8, .nilFunc⟩ := ⟨by kernel_rfl, by kernel_rfl⟩
theorem ty89 : TdOk Tryd.prog 89 ⟨.func, 1, 8, .nilFunc⟩ := ⟨by kernel_rfl, by kernel_rfl⟩
theorem ty90 : TdOk Tryd.prog 90 ⟨.func, 1, 8, .nilFunc⟩ := ⟨by kernel_rfl, by kernel_rfl⟩
theorem ty91 : TdOk Tryd.prog 91 ⟨.func, 1, 8, .nilFunc⟩ := ⟨by kernel_rfl, by kernel_rfl⟩
theorem ty92 : TdOk Tryd.prog 92 ⟨.func, 1, 8, .nilFunc⟩ := ⟨by kernel_rfl, by kernel_rfl⟩
theorem ty93 : TdOk Tryd.prog 93 ⟨.func, 1, 8, .nilFunc⟩ := ⟨by kernel_rfl, by kernel_rfl⟩
theorem ty95 : TdOk Tryd.prog 95 ⟨.func, 1, 8, .nilFunc⟩ := ⟨by kernel_rfl, by kernel_rfl⟩
theorem ty97 : TdOk Tryd.prog 97 ⟨.func, 1, 8, .nilFunc⟩ := ⟨by kernel_rfl, by kernel_rfl⟩
theorem ty98 : TdOk Tryd.prog 98 ⟨.func, 1, 8, .nilFunc⟩ := ⟨by kernel_rfl, by kernel_rfl⟩
theorem ty99 : TdOk Tryd.prog 99 ⟨.ptr 101, 1, 8, .pointer none⟩ := ⟨by kernel_rfl, by kernel_rfl⟩
theorem ty100 : TdOk Tryd.prog 100 ⟨.struct [(0, 99), (1, 23)], 2, 32, .agg #[.pointer none, .slice none 0 0]⟩ := ⟨by kernel_rfl, by kernel_rfl⟩
theorem ty101 : TdOk Tryd.prog 101 ⟨.struct [(0, 99), (1, 23)], 2, 32, .agg #[.pointer none, .slice none 0 0]⟩ := ⟨by kernel_rfl, by kernel_rfl⟩
theorem ty102 : TdOk Tryd.prog 102 ⟨.iface, 1, 16, .nilIface⟩ := ⟨by kernel_rfl, by kernel_rfl⟩
theorem ty103 : TdOk Tryd.prog 103 ⟨.iface, 1, 16, .nilIface⟩ := ⟨by kernel_rfl, by kernel_rfl⟩
theorem ty105 : TdOk Tryd.prog 105 ⟨.func, 1, 8, .nilFunc⟩ := ⟨by kernel_rfl, by kernel_rfl⟩
theorem ty106 : TdOk Tryd.prog 106 ⟨.func, 1, 8, .nilFunc⟩ := ⟨by kernel_rfl, by kernel_rfl⟩
theorem ty107 : TdOk Tryd.prog 107 ⟨.func, 1, 8, .nilFunc⟩ := ⟨by kernel_rfl, by kernel_rfl⟩
theorem ty108 : TdOk Tryd.prog 108 ⟨.array 16 86, 16, 64, .agg #[.int .u32 0, .int .u32 0, .int .u32 0, .int .u32 0, .int .u32 0, .int .u32 0, .int .u32 0, .int .u32 0, .int .u32 0, .int .u32 0, .int .u32 0, .int .u32 0, .int .u32 0, .int .u32 0, .int .u32 0, .int .u32 0]⟩ := ⟨by kernel_rfl, by kernel_rfl⟩
theorem ty109 : TdOk Tryd.prog 109 ⟨.func, 1, 8, .nilFunc⟩ := ⟨by kernel_rfl, by kernel_rfl⟩
theorem ty110 : TdOk Tryd.prog 110 ⟨.func, 1, 8, .nilFunc⟩ := ⟨by kernel_rfl, by kernel_rfl⟩
theorem ty111 : TdOk Tryd.prog 111 ⟨.func, 1, 8, .nilFunc⟩ := ⟨by kernel_rfl, by kernel_rfl⟩
theorem ty112 : TdOk Tryd.prog 112 ⟨.func, 1, 8, .nilFunc⟩ := ⟨by kernel_rfl, by kernel_rfl⟩
theorem ty114 : TdOk Tryd.prog 114 ⟨.func, 1, 8, .nilFunc⟩ := ⟨by kernel_rfl, by kernel_rfl⟩
theorem ty115 : TdOk Tryd.prog 115 ⟨.func, 1, 8, .nilFunc⟩ := ⟨by kernel_rfl, by kernel_rfl⟩
theorem ty117 : TdOk Tryd.prog 117 ⟨.func, 1, 8, .nilFunc⟩ := ⟨by kernel_rfl, by kernel_rfl⟩
theorem ty119 : TdOk Tryd.prog 119 ⟨.func, 1, 8, .nilFunc⟩ := ⟨by kernel_rfl, by kernel_rfl⟩
theorem ty120 : TdOk Tryd.prog 120 ⟨.ptr 5, 1, 8, .pointer none⟩ := ⟨by kernel_rfl, by kernel_rfl⟩
theorem ty121 : TdOk Tryd.prog 121 ⟨.func, 1, 8, .nilFunc⟩ := ⟨by kernel_rfl, by kernel_rfl⟩
theorem ty122 : TdOk Tryd.prog 122 ⟨.func, 1, 8, .nilFunc⟩ := ⟨by kernel_rfl, by kernel_rfl⟩
theorem ty125 : TdOk Tryd.prog 125 ⟨.func, 1, 8, .nilFunc⟩ := ⟨by kernel_rfl, by kernel_rfl⟩
theorem ty126 : TdOk Tryd.prog 126 ⟨.func, 1, 8, .nilFunc⟩ := ⟨by kernel_rfl, by kernel_rfl⟩
theorem ty127 : TdOk Tryd.prog 127 ⟨.func, 1, 8, .nilFunc⟩ := ⟨by kernel_rfl, by kernel_rfl⟩
theorem ty128 : TdOk Tryd.prog 128 ⟨.func, 1, 8, .nilFunc⟩ := ⟨by kernel_rfl, by kernel_rfl⟩
theorem ty129 : TdOk Tryd.prog 129 ⟨.func, 1, 8, .nilFunc⟩ := ⟨by kernel_rfl, by kernel_rfl⟩
theorem ty130 : TdOk Tryd.prog 130 ⟨.func, 1, 8, .nilFunc⟩ := ⟨by kernel_rfl, by kernel_rfl⟩
theorem ty131 : TdOk Tryd.prog 131 ⟨.array 24 5, 24, 24, .agg #[.int .u8 0, .int .u8 0, .int .u8 0, .int .u8 0, .int .u8 0, .int .u8 0, .int .u8 0, .int .u8 0, .int .u8 0, .int .u8 0, .int .u8 0, .int .u8 0, .int .u8 0, .int .u8 0, .int .u8 0, .int .u8 0, .int .u8 0, .int .u8 0, .int .u8 0, .int .u8 0, .int .u8 0, .int .u8 0, .int .u8 0, .int .u8 0]⟩ := ⟨by kernel_rfl, by kernel_rfl⟩
theorem ty132 : TdOk Tryd.prog 132 ⟨.func, 1, 8, .nilFunc⟩ := ⟨by kernel_rfl, by kernel_rfl⟩
theorem ty134 : TdOk Tryd.prog 134 ⟨.func, 1, 8, .nilFunc⟩ := ⟨by kernel_rfl, by kernel_rfl⟩
theorem ty136 : TdOk Tryd.prog 136 ⟨.func, 1, 8, .nilFunc⟩ := ⟨by kernel_rfl, by kernel_rfl⟩
theorem ty137 : TdOk Tryd.prog 137 ⟨.func, 1, 8, .nilFunc⟩ := ⟨by kernel_rfl, by kernel_rfl⟩
theorem ty139 : TdOk Tryd.prog 139 ⟨.func, 1, 8, .nilFunc⟩ := ⟨by kernel_rfl, by kernel_rfl⟩
theorem ty140 : TdOk Tryd.prog 140 ⟨.func, 1, 8, .nilFunc⟩ := ⟨by kernel_rfl, by kernel_rfl⟩
theorem ty141 : TdOk Tryd.prog 141 ⟨.func, 1, 8, .nilFunc⟩ := ⟨by kernel_rfl, by kernel_rfl⟩
theorem ty142 : TdOk Tryd.prog 142 ⟨.ptr 3, 1, 8, .pointer none⟩ := ⟨by kernel_rfl, by kernel_rfl⟩
theorem ty143 : TdOk Tryd.prog 143 ⟨.func, 1, 8, .nilFunc⟩ := ⟨by kernel_rfl, by kernel_rfl⟩
theorem ty144 : TdOk Tryd.prog 144 ⟨.func, 1, 8, .nilFunc⟩ := ⟨by kernel_rfl, by kernel_rfl⟩
theorem ty145 : TdOk Tryd.prog 145 ⟨.func, 1, 8, .nilFunc⟩ := ⟨by kernel_rfl, by kernel_rfl⟩
theorem ty146 : TdOk Tryd.prog 146 ⟨.array 20 61, 20, 160, .agg #[.int .u64 0, .int .u64 0, .int .u64 0, .int .u64 0, .int .u64 0, .int .u64 0, .int .u64 0, .int .u64 0, .int .u64 0, .int .u64 0, .int .u64 0, .int .u64 0, .int .u64 0, .int .u64 0, .int .u64 0, .int .u64 0, .int .u64 0, .int .u64 0, .int .u64 0, .int .u64 0]⟩ := ⟨by kernel_rfl, by kernel_rfl⟩
theorem ty147 : TdOk Tryd.prog 147 ⟨.array 65 5, 65, 65, .agg #[.int .u8 0, .int .u8 0, .int .u8 0, .int .u8 0, .int .u8 0, .int .u8 0, .int .u8 0, .int .u8 0, .int .u8 0, .int .u8 0, .int .u8 0, .int .u8 0, .int .u8 0, .int .u8 0, .int .u8 0, .int .u8 0, .int .u8 0, .int .u8 0, .int .u8 0, .int .u8 0, .int .u8 0, .int .u8 0, .int .u8 0, .int .u8 0, .int .u8 0, .int .u8 0, .int .u8 0, .int .u8 0, .int .u8 0, .int .u8 0, .int .u8 0, .int .u8 0, .int .u8 0, .int .u8 0, .int .u8 0, .int .u8 0, .int .u8 0, .int .u8 0, .int .u8 0, .int .u8 0, .int .u8 0, .int .u8 0, .int .u8 0, .int .u8 0, .int .u8 0, .int .u8 0, .int .u8 0, .int .u8 0, .int .u8 0, .int .u8 0, .int .u8 0, .int .u8 0, .int .u8 0, .int .u8 0, .int .u8 0, .int .u8 0, .int .u8 0, .int .u8 0, .int .u8 0, .int .u8 0, .int .u8 0, .int .u8 0, .int .u8 0, .int .u8 0, .int .u8 0]⟩ := ⟨by kernel_rfl, by kernel_rfl⟩
theorem ty148 : TdOk Tryd.prog 148 ⟨.ptr 138, 1, 8, .pointer none⟩ := ⟨by kernel_rfl, by kernel_rfl⟩
theorem ty149 : TdOk Tryd.prog 149 ⟨.func, 1, 8, .nilFunc⟩ := ⟨by kernel_rfl, by kernel_rfl⟩
theorem ty150 : TdOk Tryd.prog 150 ⟨.array 32 5, 32, 32, .agg #[.int .u8 0, .int .u8 0, .int .u8 0, .int .u8 0, .int .u8 0, .int .u8 0, .int .u8 0, .int .u8 0, .int .u8 0, .int .u8 0, .int .u8 0, .int .u8 0, .int .u8 0, .int .u8 0, .int .u8 0, .int .u8 0, .int .u8 0, .int .u8 0, .int .u8 0, .int .u8 0, .int .u8 0, .int .u8 0, .int .u8 0, .int .u8 0, .int .u8 0, .int .u8 0, .int .u8 0, .int .u8 0, .int .u8 0, .int .u8 0, .int .u8 0, .int .u8 0]⟩ := ⟨by kernel_rfl, by kernel_rfl⟩
theorem ty151 : TdOk Tryd.prog 151 ⟨.array 64 5, 64, 64, .agg #[.int .u8 0, .int .u8 0, .int .u8 0, .int .u8 0, .int .u8 0, .int .u8 0, .int .u8 0, .int .u8 0, .int .u8 0, .int .u8 0, .int .u8 0, .int .u8 0, .int .u8 0, .int .u8 0, .int .u8 0, .int .u8 0, .int .u8 0, .int .u8 0, .int .u8 0, .int .u8 0, .int .u8 0, .int .u8 0, .int .u8 0, .int .u8 0, .int .u8 0, .int .u8 0, .int .u8 0, .int .u8 0, .int .u8 0, .int .u8 0, .int .u8 0, .int .u8 0, .int .u8 0, .int .u8 0, .int .u8 0, .int .u8 0, .int .u8 0, .int .u8 0, .int .u8 0, .int .u8 0, .int .u8 0, .int .u8 0, .int .u8 0, .int .u8 0, .int .u8 0, .int .u8 0, .int .u8 0, .int .u8 0, .int .u8 0, .int .u8 0, .int .u8 0, .int .u8 0, .int .u8 0, .int .u8 0, .int .u8 0, .int .u8 0, .int .u8 0, .int .u8 0, .int .u8 0, .int .u8 0, .int .u8 0, .int .u8 0, .int .u8 0, .int .u8 0]⟩ := ⟨by kernel_rfl, by kernel_rfl⟩
theorem ty152 : TdOk Tryd.prog 152 ⟨.struct [(0, 17), (1, 17), (2, 17), (3, 9)], 4, 40, .agg #[.pointer none, .pointer none, .pointer none, .string ByteArray.empty]⟩ := ⟨by kernel_rfl, by kernel_rfl⟩
theorem ty153 : TdOk Tryd.prog 153 ⟨.struct [(0, 17), (1, 17), (2, 17), (3, 9)], 4, 40, .agg #[.pointer none, .pointer none, .pointer none, .string ByteArray.empty]⟩ := ⟨by kernel_rfl, by kernel_rfl⟩
theorem ty154 : TdOk Tryd.prog 154 ⟨.array 0 16, 0, 0, .agg #[]⟩ := ⟨by kernel_rfl, by kernel_rfl⟩
theorem ty155 : TdOk Tryd.prog 155 ⟨.struct [(0, 154)], 0, 0, .agg #[]⟩ := ⟨by kernel_rfl, by kernel_rfl⟩
theorem ty156 : TdOk Tryd.prog 156 ⟨.struct [(0, 154)], 0, 0, .agg #[]⟩ := ⟨by kernel_rfl, by kernel_rfl⟩
theorem ty159 : TdOk Tryd.prog 159 ⟨.func, 1, 8, .nilFunc⟩ := ⟨by kernel_rfl, by kernel_rfl⟩
theorem ty162 : TdOk Tryd.prog 162 ⟨.struct [(0, 12), (1, 12), (2, 86), (3, 157), (4, 5), (5, 5), (6, 158), (7, 159), (8, 120), (9, 160), (10, 161)], 11, 48, .agg #[.int .u64 0, .int .u64 0, .int .u32 0, .int .u8 0, .int .u8 0, .int .u8 0, .int .u8 0, .nilFunc, .pointer none, .int .i32 0, .int .i32 0]⟩ := ⟨by kernel_rfl, by kernel_rfl⟩
theorem ty163 : TdOk Tryd.prog 163 ⟨.struct [(0, 12), (1, 12), (2, 86), (3, 157), (4, 5), (5, 5), (6, 158), (7, 159), (8, 120), (9, 160), (10, 161)], 11, 48, .agg #[.int .u64 0, .int .u64 0, .int .u32 0, .int .u8 0, .int .u8 0, .int .u8 0, .int .u8 0, .nilFunc, .pointer none, .int .i32 0, .int .i32 0]⟩ := ⟨by kernel_rfl, by kernel_rfl⟩
def TT : Tab := [(2, ⟨.int .i64, 1, 8, .int .i64 0⟩),
  (3, ⟨.int .i64, 1, 8, .int .i64 0⟩),
  (4, ⟨.bool, 1, 1, .bool false⟩),
  (5, ⟨.int .u8, 1, 1, .int .u8 0⟩),
  (6, ⟨.int .u8, 1, 1, .int .u8 0⟩),
  (12, ⟨.int .u64, 1, 8, .int .u64 0⟩),
  (21, ⟨.int .i32, 1, 4, .int .i32 0⟩),
  (22, ⟨.slice 23, 1, 24, .slice none 0 0⟩),
  (23, ⟨.slice 5, 1, 24, .slice none 0 0⟩),
  (25, ⟨.int .i64, 1, 8, .int .i64 0⟩),
  (45, ⟨.slice 54, 1, 24, .slice none 0 0⟩),
  (48, ⟨.slice 9, 1, 24, .slice none 0 0⟩),
  (55, ⟨.slice 3, 1, 24, .slice none 0 0⟩),
  (61, ⟨.int .u64, 1, 8, .int .u64 0⟩),
  (86, ⟨.int .u32, 1, 4, .int .u32 0⟩),
  (88, ⟨.int .u64, 1, 8, .int .u64 0⟩),
  (123, ⟨.int .i64, 1, 8, .int .i64 0⟩),
  (138, ⟨.int .u64, 1, 8, .int .u64 0⟩),
  (157, ⟨.int .u8, 1, 1, .int .u8 0⟩),
  (158, ⟨.int .u8, 1, 1, .int .u8 0⟩),
  (160, ⟨.int .i32, 1, 4, .int .i32 0⟩),
  (161, ⟨.int .i32, 1, 4, .int .i32 0⟩),
  (1, ⟨.func, 1, 8, .nilFunc⟩),
  (7, ⟨.struct [(0, 2), (1, 3), (2, 4), (3, 6)], 4, 24, .agg #[.int .i64 0, .int .i64 0, .bool false, .int .u8 0]⟩),
  (8, ⟨.struct [(0, 2), (1, 3), (2, 4), (3, 6)], 4, 24, .agg #[.int .i64 0, .int .i64 0, .bool false, .int .u8 0]⟩),
  (9, ⟨.str, 1, 16, .string ByteArray.empty⟩),
  (10, ⟨.str, 1, 16, .string ByteArray.empty⟩),
  (11, ⟨.str, 1, 16, .string ByteArray.empty⟩),
  (13, ⟨.struct [(0, 9), (1, 12)], 2, 24, .agg #[.string ByteArray.empty, .int .u64 0]⟩),
  (14, ⟨.struct [(0, 9), (1, 12)], 2, 24, .agg #[.string ByteArray.empty, .int .u64 0]⟩),
  (15, ⟨.ptr 153, 1, 8, .pointer none⟩),
  (16, ⟨.ptr 156, 1, 8, .pointer none⟩),
  (17, ⟨.ptr 163, 1, 8, .pointer none⟩),
  (18, ⟨.struct [(0, 17)], 1, 8, .agg #[.pointer none]⟩),
  (19, ⟨.struct [(0, 17)], 1, 8, .agg #[.pointer none]⟩),
  (20, ⟨.iface, 1, 16, .nilIface⟩),
  (24, ⟨.ptr 44, 1, 8, .pointer none⟩),
  (27, ⟨.func, 1, 8, .nilFunc⟩),
  (28, ⟨.ptr 47, 1, 8, .pointer none⟩),
  (30, ⟨.func, 1, 8, .nilFunc⟩),
  (31, ⟨.func, 1, 8, .nilFunc⟩),
  (33, ⟨.func, 1, 8, .nilFunc⟩),
  (34, ⟨.func, 1, 8, .nilFunc⟩),
  (36, ⟨.func, 1, 8, .nilFunc⟩),
  (38, ⟨.func, 1, 8, .nilFunc⟩),
  (39, ⟨.func, 1, 8, .nilFunc⟩),
  (40, ⟨.func, 1, 8, .nilFunc⟩),
  (41, ⟨.func, 1, 8, .nilFunc⟩),
  (42, ⟨.map 9 67, 1, 8, .map none⟩),
  (43, ⟨.struct [(0, 3), (1, 3), (2, 42)], 3, 24, .agg #[.int .i64 0, .int .i64 0, .map none]⟩),
  (44, ⟨.struct [(0, 3), (1, 3), (2, 42)], 3, 24, .agg #[.int .i64 0, .int .i64 0, .map none]⟩),
  (46, ⟨.struct [(0, 24), (1, 9), (2, 45), (3, 3)], 4, 56, .agg #[.pointer none, .string ByteArray.empty, .slice none 0 0, .int .i64 0]⟩),
  (47, ⟨.struct [(0, 24), (1, 9), (2, 45), (3, 3)], 4, 56, .agg #[.pointer none, .string ByteArray.empty, .slice none 0 0, .int .i64 0]⟩),
  (49, ⟨.func, 1, 8, .nilFunc⟩),
  (51, ⟨.func, 1, 8, .nilFunc⟩),
  (52, ⟨.func, 1, 8, .nilFunc⟩),
  (53, ⟨.func, 1, 8, .nilFunc⟩),
  (54, ⟨.ptr 57, 1, 8, .pointer none⟩),
  (56, ⟨.struct [(0, 3), (1, 22), (2, 55), (3, 4)], 4, 64, .agg #[.int .i64 0, .slice none 0 0, .slice none 0 0, .bool false]⟩),
  (57, ⟨.struct [(0, 3), (1, 22), (2, 55), (3, 4)], 4, 64, .agg #[.int .i64 0, .slice none 0 0, .slice none 0 0, .bool false]⟩),
  (58, ⟨.func, 1, 8, .nilFunc⟩),
  (59, ⟨.func, 1, 8, .nilFunc⟩),
  (60, ⟨.func, 1, 8, .nilFunc⟩),
  (62, ⟨.func, 1, 8, .nilFunc⟩),
  (63, ⟨.func, 1, 8, .nilFunc⟩),
  (64, ⟨.func, 1, 8, .nilFunc⟩),
  (65, ⟨.func, 1, 8, .nilFunc⟩),
  (66, ⟨.struct [(0, 23), (1, 3)], 2, 32, .agg #[.slice none 0 0, .int .i64 0]⟩),
  (67, ⟨.struct [(0, 23), (1, 3)], 2, 32, .agg #[.slice none 0 0, .int .i64 0]⟩),
  (68, ⟨.func, 1, 8, .nilFunc⟩),
  (69, ⟨.func, 1, 8, .nilFunc⟩),
  (70, ⟨.func, 1, 8, .nilFunc⟩),
  (71, ⟨.func, 1, 8, .nilFunc⟩),
  (72, ⟨.func, 1, 8, .nilFunc⟩),
  (73, ⟨.func, 1, 8, .nilFunc⟩),
  (75, ⟨.func, 1, 8, .nilFunc⟩),
  (77, ⟨.func, 1, 8, .nilFunc⟩),
  (78, ⟨.func, 1, 8, .nilFunc⟩),
  (80, ⟨.func, 1, 8, .nilFunc⟩),
  (82, ⟨.func, 1, 8, .nilFunc⟩),
  (83, ⟨.func, 1, 8, .nilFunc⟩),
  (84, ⟨.func, 1, 8, .nilFunc⟩),
  (85, ⟨.func, 1, 8, .nilFunc⟩),
  (87, ⟨.func, 1, 8, .nilFunc⟩),
  (89, ⟨.func, 1, 8, .nilFunc⟩),
  (90, ⟨.func, 1, 8, .nilFunc⟩),
  (91, ⟨.func, 1, 8, .nilFunc⟩),
  (92, ⟨.func, 1, 8, .nilFunc⟩),
  (93, ⟨.func, 1, 8, .nilFunc⟩),
  (95, ⟨.func, 1, 8, .nilFunc⟩),
  (97, ⟨.func, 1, 8, .nilFunc⟩),
  (98, ⟨.func, 1, 8, .nilFunc⟩),
  (99, ⟨.ptr 101, 1, 8, .pointer none⟩),
  (100, ⟨.struct [(0, 99), (1, 23)], 2, 32, .agg #[.pointer none, .slice none 0 0]⟩),
  (101, ⟨.struct [(0, 99), (1, 23)], 2, 32, .agg #[.pointer none, .slice none 0 0]⟩),
  (102, ⟨.iface, 1, 16, .nilIface⟩),
  (103, ⟨.iface, 1, 16, .nilIface⟩),
  (105, ⟨.func, 1, 8, .nilFunc⟩),
  (106, ⟨.func, 1, 8, .nilFunc⟩),
  (107, ⟨.func, 1, 8, .nilFunc⟩),
  (108, ⟨.array 16 86, 16, 64, .agg #[.int .u32 0, .int .u32 0, .int .u32 0, .int .u32 0, .int .u32 0, .int .u32 0, .int .u32 0, .int .u32 0, .int .u32 0, .int .u32 0, .int .u32 0, .int .u32 0, .int .u32 0, .int .u32 0, .int .u32 0, .int .u32 0]⟩),
  (109, ⟨.func, 1, 8, .nilFunc⟩),
  (110, ⟨.func, 1, 8, .nilFunc⟩),
  (111, ⟨.func, 1, 8, .nilFunc⟩),
  (112, ⟨.func, 1, 8, .nilFunc⟩),
  (114, ⟨.func, 1, 8, .nilFunc⟩),
  (115, ⟨.func, 1, 8, .nilFunc⟩),
  (117, ⟨.func, 1, 8, .nilFunc⟩),
  (119, ⟨.func, 1, 8, .nilFunc⟩),
  (120, ⟨.ptr 5, 1, 8, .pointer none⟩),
  (121, ⟨.func, 1, 8, .nilFunc⟩),
  (122, ⟨.func, 1, 8, .nilFunc⟩),
  (125, ⟨.func, 1, 8, .nilFunc⟩),
  (126, ⟨.func, 1, 8, .nilFunc⟩),
  (127, ⟨.func, 1, 8, .nilFunc⟩),
  (128, ⟨.func, 1, 8, .nilFunc⟩),
  (129, ⟨.func, 1, 8, .nilFunc⟩),
  (130, ⟨.func, 1, 8, .nilFunc⟩),
  (131, ⟨.array 24 5, 24, 24, .agg #[.int .u8 0, .int .u8 0, .int .u8 0, .int .u8 0, .int .u8 0, .int .u8 0, .int .u8 0, .int .u8 0, .int .u8 0, .int .u8 0, .int .u8 0, .int .u8 0, .int .u8 0, .int .u8 0, .int .u8 0, .int .u8 0, .int .u8 0, .int .u8 0, .int .u8 0, .int .u8 0, .int .u8 0, .int .u8 0, .int .u8 0, .int .u8 0]⟩),
  (132, ⟨.func, 1, 8, .nilFunc⟩),
  (134, ⟨.func, 1, 8, .nilFunc⟩),
  (136, ⟨.func, 1, 8, .nilFunc⟩),
  (137, ⟨.func, 1, 8, .nilFunc⟩),
  (139, ⟨.func, 1, 8, .nilFunc⟩),
  (140, ⟨.func, 1, 8, .nilFunc⟩),
  (141, ⟨.func, 1, 8, .nilFunc⟩),
  (142, ⟨.ptr 3, 1, 8, .pointer none⟩),
  (143, ⟨.func, 1, 8, .nilFunc⟩),
  (144, ⟨.func, 1, 8, .nilFunc⟩),
  (145, ⟨.func, 1, 8, .nilFunc⟩),
  (146, ⟨.array 20 61, 20, 160, .agg #[.int .u64 0, .int .u64 0, .int .u64 0, .int .u64 0, .int .u64 0, .int .u64 0, .int .u64 0, .int .u64 0, .int .u64 0, .int .u64 0, .int .u64 0, .int .u64 0, .int .u64 0, .int .u64 0, .int .u64 0, .int .u64 0, .int .u64 0, .int .u64 0, .int .u64 0, .int .u64 0]⟩),
  (147, ⟨.array 65 5, 65, 65, .agg #[.int .u8 0, .int .u8 0, .int .u8 0, .int .u8 0, .int .u8 0, .int .u8 0, .int .u8 0, .int .u8 0, .int .u8 0, .int .u8 0, .int .u8 0, .int .u8 0, .int .u8 0, .int .u8 0, .int .u8 0, .int .u8 0, .int .u8 0, .int .u8 0, .int .u8 0, .int .u8 0, .int .u8 0, .int .u8 0, .int .u8 0, .int .u8 0, .int .u8 0, .int .u8 0, .int .u8 0, .int .u8 0, .int .u8 0, .int .u8 0, .int .u8 0, .int .u8 0, .int .u8 0, .int .u8 0, .int .u8 0, .int .u8 0, .int .u8 0, .int .u8 0, .int .u8 0, .int .u8 0, .int .u8 0, .int .u8 0, .int .u8 0, .int .u8 0, .int .u8 0, .int .u8 0, .int .u8 0, .int .u8 0, .int .u8 0, .int .u8 0, .int .u8 0, .int .u8 0, .int .u8 0, .int .u8 0, .int .u8 0, .int .u8 0, .int .u8 0, .int .u8 0, .int .u8 0, .int .u8 0, .int .u8 0, .int .u8 0, .int .u8 0, .int .u8 0, .int .u8 0]⟩),
  (148, ⟨.ptr 138, 1, 8, .pointer none⟩),
  (149, ⟨.func, 1, 8, .nilFunc⟩),
  (150, ⟨.array 32 5, 32, 32, .agg #[.int .u8 0, .int .u8 0, .int .u8 0, .int .u8 0, .int .u8 0, .int .u8 0, .int .u8 0, .int .u8 0, .int .u8 0, .int .u8 0, .int .u8 0, .int .u8 0, .int .u8 0, .int .u8 0, .int .u8 0, .int .u8 0, .int .u8 0, .int .u8 0, .int .u8 0, .int .u8 0, .int .u8 0, .int .u8 0, .int .u8 0, .int .u8 0, .int .u8 0, .int .u8 0, .int .u8 0, .int .u8 0, .int .u8 0, .int .u8 0, .int .u8 0, .int .u8 0]⟩),
  (151, ⟨.array 64 5, 64, 64, .agg #[.int .u8 0, .int .u8 0, .int .u8 0, .int .u8 0, .int .u8 0, .int .u8 0, .int .u8 0, .int .u8 0, .int .u8 0, .int .u8 0, .int .u8 0, .int .u8 0, .int .u8 0, .int .u8 0, .int .u8 0, .int .u8 0, .int .u8 0, .int .u8 0, .int .u8 0, .int .u8 0, .int .u8 0, .int .u8 0, .int .u8 0, .int .u8 0, .int .u8 0, .int .u8 0, .int .u8 0, .int .u8 0, .int .u8 0, .int .u8 0, .int .u8 0, .int .u8 0, .int .u8 0, .int .u8 0, .int .u8 0, .int .u8 0, .int .u8 0, .int .u8 0, .int .u8 0, .int .u8 0, .int .u8 0, .int .u8 0, .int .u8 0, .int .u8 0, .int .u8 0, .int .u8 0, .int .u8 0, .int .u8 0, .int .u8 0, .int .u8 0, .int .u8 0, .int .u8 0, .int .u8 0, .int .u8 0, .int .u8 0, .int .u8 0, .int .u8 0, .int .u8 0, .int .u8 0, .int .u8 0, .int .u8 0, .int .u8 0, .int .u8 0, .int .u8 0]⟩),
  (152, ⟨.struct [(0, 17), (1, 17), (2, 17), (3, 9)], 4, 40, .agg #[.pointer none, .pointer none, .pointer none, .string ByteArray.empty]⟩),
  (153, ⟨.struct [(0, 17), (1, 17), (2, 17), (3, 9)], 4, 40, .agg #[.pointer none, .pointer none, .pointer none, .string ByteArray.empty]⟩),
  (154, ⟨.array 0 16, 0, 0, .agg #[]⟩),
  (155, ⟨.struct [(0, 154)], 0, 0, .agg #[]⟩),
  (156, ⟨.struct [(0, 154)], 0, 0, .agg #[]⟩),
  (159, ⟨.func, 1, 8, .nilFunc⟩),
  (162, ⟨.struct [(0, 12), (1, 12), (2, 86), (3, 157), (4, 5), (5, 5), (6, 158), (7, 159), (8, 120), (9, 160), (10, 161)], 11, 48, .agg #[.int .u64 0, .int .u64 0, .int .u32 0, .int .u8 0, .int .u8 0, .int .u8 0, .int .u8 0, .nilFunc, .pointer none, .int .i32 0, .int .i32 0]⟩),
  (163, ⟨.struct [(0, 12), (1, 12), (2, 86), (3, 157), (4, 5), (5, 5), (6, 158), (7, 159), (8, 120), (9, 160), (10, 161)], 11, 48, .agg #[.int .u64 0, .int .u64 0, .int .u32 0, .int .u8 0, .int .u8 0, .int .u8 0, .int .u8 0, .nilFunc, .pointer none, .int .i32 0, .int .i32 0]⟩)]
theorem ttOk : TabOk Tryd.prog TT := tabOk_cons ty2 <| tabOk_cons ty3 <| tabOk_cons ty4 <| tabOk_cons ty5 <| tabOk_cons ty6 <| tabOk_cons ty12 <| tabOk_cons ty21 <| tabOk_cons ty22 <| tabOk_cons ty23 <| tabOk_cons ty25 <| tabOk_cons ty45 <| tabOk_cons ty48 <| tabOk_cons ty55 <| tabOk_cons ty61 <| tabOk_cons ty86 <| tabOk_cons ty88 <| tabOk_cons ty123 <| tabOk_cons ty138 <| tabOk_cons ty157 <| tabOk_cons ty158 <| tabOk_cons ty160 <| tabOk_cons ty161 <| tabOk_cons ty1 <| tabOk_cons ty7 <| tabOk_cons ty8 <| tabOk_cons ty9 <| tabOk_cons ty10 <| tabOk_cons ty11 <| tabOk_cons ty13 <| tabOk_cons ty14 <| tabOk_cons ty15 <| tabOk_cons ty16 <| tabOk_cons ty17 <| tabOk_cons ty18 <| tabOk_cons ty19 <| tabOk_cons ty20 <| tabOk_cons ty24 <| tabOk_cons ty27 <| tabOk_cons ty28 <| tabOk_cons ty30 <| tabOk_cons ty31 <| tabOk_cons ty33 <| tabOk_cons ty34 <| tabOk_cons ty36 <| tabOk_cons ty38 <| tabOk_cons ty39 <| tabOk_cons ty40 <| tabOk_cons ty41 <| tabOk_cons ty42 <| tabOk_cons ty43 <| tabOk_cons ty44 <| tabOk_cons ty46 <| tabOk_cons ty47 <| tabOk_cons ty49 <| tabOk_cons ty51 <| tabOk_cons ty52 <| tabOk_cons ty53 <| tabOk_cons ty54 <| tabOk_cons ty56 <| tabOk_cons ty57 <| tabOk_cons ty58 <| tabOk_cons ty59 <| tabOk_cons ty60 <| tabOk_cons ty62 <| tabOk_cons ty63 <| tabOk_cons ty64 <| tabOk_cons ty65 <| tabOk_cons ty66 <| tabOk_cons ty67 <| tabOk_cons ty68 <| tabOk_cons ty69 <| tabOk_cons ty70 <| tabOk_cons ty71 <| tabOk_cons ty72 <| tabOk_cons ty73 <| tabOk_cons ty75 <| tabOk_cons ty77 <| tabOk_cons ty78 <| tabOk_cons ty80 <| tabOk_cons ty82 <| tabOk_cons ty83 <| tabOk_cons ty84 <| tabOk_cons ty85 <| tabOk_cons ty87 <| tabOk_cons ty89 <| tabOk_cons ty90 <| tabOk_cons ty91 <| tabOk_cons ty92 <| tabOk_cons ty93 <| tabOk_cons ty95 <| tabOk_cons ty97 <| tabOk_cons ty98 <| tabOk_cons ty99 <| tabOk_cons ty100 <| tabOk_cons ty101 <| tabOk_cons ty102 <| tabOk_cons ty103 <| tabOk_cons ty105 <| tabOk_cons ty106 <| tabOk_cons ty107 <| tabOk_cons ty108 <| tabOk_cons ty109 <| tabOk_cons ty110 <| tabOk_cons ty111 <| tabOk_cons ty112 <| tabOk_cons ty114 <| tabOk_cons ty115 <| tabOk_cons ty117 <| tabOk_cons ty119 <| tabOk_cons ty120 <| tabOk_cons ty121 <| tabOk_cons ty122 <| tabOk_cons ty125 <| tabOk_cons ty126 <| tabOk_cons ty127 <| tabOk_cons ty128 <| tabOk_cons ty129 <| tabOk_cons ty130 <| tabOk_cons ty131 <| tabOk_cons ty132 <| tabOk_cons ty134 <| tabOk_cons ty136 <| tabOk_cons ty137 <| tabOk_cons ty139 <| tabOk_cons ty140 <| tabOk_cons ty141 <| tabOk_cons ty142 <| tabOk_cons ty143 <| tabOk_cons ty144 <| tabOk_cons ty145 <| tabOk_cons ty146 <| tabOk_cons ty147 <| tabOk_cons ty148 <| tabOk_cons ty149 <| tabOk_cons ty150 <| tabOk_cons ty151 <| tabOk_cons ty152 <| tabOk_cons ty153 <| tabOk_cons ty154 <| tabOk_cons ty155 <| tabOk_cons ty156 <| tabOk_cons ty159 <| tabOk_cons ty162 <| tabOk_cons ty163 <| tabOk_nil
theorem tl2 : look TT 2 = some ⟨.int .i64, 1, 8, .int .i64 0⟩ := rfl
theorem tl3 : look TT 3 = some ⟨.int .i64, 1, 8, .int .i64 0⟩ := rfl
theorem tl4 : look TT 4 = some ⟨.bool, 1, 1, .bool false⟩ := rfl
theorem tl5 : look TT 5 = some ⟨.int .u8, 1, 1, .int .u8 0⟩ := rfl
theorem tl6 : look TT 6 = some ⟨.int .u8, 1, 1, .int .u8 0⟩ := rfl
theorem tl12 : look TT 12 = some ⟨.int .u64, 1, 8, .int .u64 0⟩ := rfl
theorem tl21 : look TT 21 = some ⟨.int .i32, 1, 4, .int .i32 0⟩ := rfl
theorem tl22 : look TT 22 = some ⟨.slice 23, 1, 24, .slice none 0 0⟩ := rfl
theorem tl23 : look TT 23 = some ⟨.slice 5, 1, 24, .slice none 0 0⟩ := rfl
theorem tl25 : look TT 25 = some ⟨.int .i64, 1, 8, .int .i64 0⟩ := rfl
theorem tl45 : look TT 45 = some ⟨.slice 54, 1, 24, .slice none 0 0⟩ := rfl
theorem tl48 : look TT 48 = some ⟨.slice 9, 1, 24, .slice none 0 0⟩ := rfl
theorem tl55 : look TT 55 = some ⟨.slice 3, 1, 24, .slice none 0 0⟩ := rfl
theorem tl61 : look TT 61 = some ⟨.int .u64, 1, 8, .int .u64 0⟩ := rfl
theorem tl86 : look TT 86 = some ⟨.int .u32, 1, 4, .int .u32 0⟩ := rfl
theorem tl88 : look TT 88 = some ⟨.int .u64, 1, 8, .int .u64 0⟩ := rfl
theorem tl123 : look TT 123 = some ⟨.int .i64, 1, 8, .int .i64 0⟩ := rfl
theorem tl138 : look TT 138 = some ⟨.int .u64, 1, 8, .int .u64 0⟩ := rfl
theorem tl157 : look TT 157 = some ⟨.int .u8, 1, 1, .int .u8 0⟩ := rfl
theorem tl158 : look TT 158 = some ⟨.int .u8, 1, 1, .int .u8 0⟩ := rfl
theorem tl160 : look TT 160 = some ⟨.int .i32, 1, 4, .int .i32 0⟩ := rfl
theorem tl161 : look TT 161 = some ⟨.int .i32, 1, 4, .int .i32 0⟩ := rfl
theorem tl1 : look TT 1 = some ⟨.func, 1, 8, .nilFunc⟩ := rfl
theorem tl7 : look TT 7 = some ⟨.struct [(0, 2), (1, 3), (2, 4), (3, 6)], 4, 24, .agg #[.int .i64 0, .int .i64 0, .bool false, .int .u8 0]⟩ := rfl
theorem tl8 : look TT 8 = some ⟨.struct [(0, 2), (1, 3), (2, 4), (3, 6)], 4, 24, .agg #[.int .i64 0, .int .i64 0, .bool false, .int .u8 0]⟩ := rfl
theorem tl9 : look TT 9 = some ⟨.str, 1, 16, .string ByteArray.empty⟩ := rfl
theorem tl10 : look TT 10 = some ⟨.str, 1, 16, .string ByteArray.empty⟩ := rfl
theorem tl11 : look TT 11 = some ⟨.str, 1, 16, .string ByteArray.empty⟩ := rfl
theorem tl13 : look TT 13 = some ⟨.struct [(0, 9), (1, 12)], 2, 24, .agg #[.string ByteArray.empty, .int .u64 0]⟩ := rfl
theorem tl14 : look TT 14 = some ⟨.struct [(0, 9), (1, 12)], 2, 24, .agg #[.string ByteArray.empty, .int .u64 0]⟩ := rfl
theorem tl15 : look TT 15 = some ⟨.ptr 153, 1, 8, .pointer none⟩ := rfl
theorem tl16 : look TT 16 = some ⟨.ptr 156, 1, 8, .pointer none⟩ := rfl
theorem tl17 : look TT 17 = some ⟨.ptr 163, 1, 8, .pointer none⟩ := rfl
theorem tl18 : look TT 18 = some ⟨.struct [(0, 17)], 1, 8, .agg #[.pointer none]⟩ := rfl
theorem tl19 : look TT 19 = some ⟨.struct [(0, 17)], 1, 8, .agg #[.pointer none]⟩ := rfl
theorem tl20 : look TT 20 = some ⟨.iface, 1, 16, .nilIface⟩ := rfl
theorem tl24 : look TT 24 = some ⟨.ptr 44, 1, 8, .pointer none⟩ := rfl
theorem tl27 : look TT 27 = some ⟨.func, 1, 8, .nilFunc⟩ := rfl
theorem tl28 : look TT 28 = some ⟨.ptr 47, 1, 8, .pointer none⟩ := rfl
theorem tl30 : look TT 30 = some ⟨.func, 1, 8, .nilFunc⟩ := rfl
theorem tl31 : look TT 31 = some ⟨.func, 1, 8, .nilFunc⟩ := rfl
theorem tl33 : look TT 33 = some ⟨.func, 1, 8, .nilFunc⟩ := rfl
theorem tl34 : look TT 34 = some ⟨.func, 1, 8, .nilFunc⟩ := rfl
theorem tl36 : look TT 36 = some ⟨.func, 1, 8, .nilFunc⟩ := rfl
theorem tl38 : look TT 38 = some ⟨.func, 1, 8, .nilFunc⟩ := rfl
theorem tl39 : look TT 39 = some ⟨.func, 1, 8, .nilFunc⟩ := rfl
theorem tl40 : look TT 40 = some ⟨.func, 1, 8, .nilFunc⟩ := rfl
theorem tl41 : look TT 41 = some ⟨.func, 1, 8, .nilFunc⟩ := rfl
theorem tl42 : look TT 42 = some ⟨.map 9 67, 1, 8, .map none⟩ := rfl
theorem tl43 : look TT 43 = some ⟨.struct [(0, 3), (1, 3), (2, 42)], 3, 24, .agg #[.int .i64 0, .int .i64 0, .map none]⟩ := rfl
theorem tl44 : look TT 44 = some ⟨.struct [(0, 3), (1, 3), (2, 42)], 3, 24, .agg #[.int .i64 0, .int .i64 0, .map none]⟩ := rfl
theorem tl46 : look TT 46 = some ⟨.struct [(0, 24), (1, 9), (2, 45), (3, 3)], 4, 56, .agg #[.pointer none, .string ByteArray.empty, .slice none 0 0, .int .i64 0]⟩ := rfl
theorem tl47 : look TT 47 = some ⟨.struct [(0, 24), (1, 9), (2, 45), (3, 3)], 4, 56, .agg #[.pointer none, .string ByteArray.empty, .slice none 0 0, .int .i64 0]⟩ := rfl
theorem tl49 : look TT 49 = some ⟨.func, 1, 8, .nilFunc⟩ := rfl
theorem tl51 : look TT 51 = some ⟨.func, 1, 8, .nilFunc⟩ := rfl
theorem tl52 : look TT 52 = some ⟨.func, 1, 8, .nilFunc⟩ := rfl
theorem tl53 : look TT 53 = some ⟨.func, 1, 8, .nilFunc⟩ := rfl
theorem tl54 : look TT 54 = some ⟨.ptr 57, 1, 8, .pointer none⟩ := rfl
theorem tl56 : look TT 56 = some ⟨.struct [(0, 3), (1, 22), (2, 55), (3, 4)], 4, 64, .agg #[.int .i64 0, .slice none 0 0, .slice none 0 0, .bool false]⟩ := rfl
theorem tl57 : look TT 57 = some ⟨.struct [(0, 3), (1, 22), (2, 55), (3, 4)], 4, 64, .agg #[.int .i64 0, .slice none 0 0, .slice none 0 0, .bool false]⟩ := rfl
theorem tl58 : look TT 58 = some ⟨.func, 1, 8, .nilFunc⟩ := rfl
theorem tl59 : look TT 59 = some ⟨.func, 1, 8, .nilFunc⟩ := rfl
theorem tl60 : look TT 60 = some ⟨.func, 1, 8, .nilFunc⟩ := rfl
theorem tl62 : look TT 62 = some ⟨.func, 1, 8, .nilFunc⟩ := rfl
theorem tl63 : look TT 63 = some ⟨.func, 1, 8, .nilFunc⟩ := rfl
theorem tl64 : look TT 64 = some ⟨.func, 1, 8, .nilFunc⟩ := rfl
theorem tl65 : look TT 65 = some ⟨.func, 1, 8, .nilFunc⟩ := rfl
theorem tl66 : look TT 66 = some ⟨.struct [(0, 23), (1, 3)], 2, 32, .agg #[.slice none 0 0, .int .i64 0]⟩ := rfl
theorem tl67 : look TT 67 = some ⟨.struct [(0, 23), (1, 3)], 2, 32, .agg #[.slice none 0 0, .int .i64 0]⟩ := rfl
theorem tl68 : look TT 68 = some ⟨.func, 1, 8, .nilFunc⟩ := rfl
theorem tl69 : look TT 69 = some ⟨.func, 1, 8, .nilFunc⟩ := rfl
theorem tl70 : look TT 70 = some ⟨.func, 1, 8, .nilFunc⟩ := rfl
theorem tl71 : look TT 71 = some ⟨.func, 1, 8, .nilFunc⟩ := rfl
theorem tl72 : look TT 72 = some ⟨.func, 1, 8, .nilFunc⟩ := rfl
theorem tl73 : look TT 73 = some ⟨.func, 1, 8, .nilFunc⟩ := rfl
theorem tl75 : look TT 75 = some ⟨.func, 1, 8, .nilFunc⟩ := rfl
theorem tl77 : look TT 77 = some ⟨.func, 1, 8, .nilFunc⟩ := rfl
theorem tl78 : look TT 78 = some ⟨.func, 1, 8, .nilFunc⟩ := rfl
theorem tl80 : look TT 80 = some ⟨.func, 1, 8, .nilFunc⟩ := rfl
theorem tl82 : look TT 82 = some ⟨.func, 1, 8, .nilFunc⟩ := rfl
theorem tl83 : look TT 83 = some ⟨.func, 1, 8, .nilFunc⟩ := rfl
theorem tl84 : look TT 84 = some ⟨.func, 1, 8, .nilFunc⟩ := rfl
theorem tl85 : look TT 85 = some ⟨.func, 1, 8, .nilFunc⟩ := rfl
theorem tl87 : look TT 87 = some ⟨.func, 1, 8, .nilFunc⟩ := rfl
theorem tl89 : look TT 89 = some ⟨.func, 1, 8, .nilFunc⟩ := rfl
theorem tl90 : look TT 90 = some ⟨.func, 1, 8, .nilFunc⟩ := rfl
theorem tl91 : look TT 91 = some ⟨.func, 1, 8, .nilFunc⟩ := rfl
theorem tl92 : look TT 92 = some ⟨.func, 1, 8, .nilFunc⟩ := rfl
theorem tl93 : look TT 93 = some ⟨.func, 1, 8, .nilFunc⟩ := rfl
theorem tl95 : look TT 95 = some ⟨.func, 1, 8, .nilFunc⟩ := rfl
theorem tl97 : look TT 97 = some ⟨.func, 1, 8, .nilFunc⟩ := rfl
theorem tl98 : look TT 98 = some ⟨.func, 1, 8, .nilFunc⟩ := rfl
theorem tl99 : look TT 99 = some ⟨.ptr 101, 1, 8, .pointer none⟩ := rfl
theorem tl100 : look TT 100 = some ⟨.struct [(0, 99), (1, 23)], 2, 32, .agg #[.pointer none, .slice none 0 0]⟩ := rfl
theorem tl101 : look TT 101 = some ⟨.struct [(0, 99), (1, 23)], 2, 32, .agg #[.pointer none, .slice none 0 0]⟩ := rfl
theorem tl102 : look TT 102 = some ⟨.iface, 1, 16, .nilIface⟩ := rfl
theorem tl103 : look TT 103 = some ⟨.iface, 1, 16, .nilIface⟩ := rfl
theorem tl105 : look TT 105 = some ⟨.func, 1, 8, .nilFunc⟩ := rfl
theorem tl106 : look TT 106 = some ⟨.func, 1, 8, .nilFunc⟩ := rfl
theorem tl107 : look TT 107 = some ⟨.func, 1, 8, .nilFunc⟩ := rfl
theorem tl108 : look TT 108 = some ⟨.array 16 86, 16, 64, .agg #[.int .u32 0, .int .u32 0, .int .u32 0, .int .u32 0, .int .u32 0, .int .u32 0, .int .u32 0, .int .u32 0, .int .u32 0, .int .u32 0, .int .u32 0, .int .u32 0, .int .u32 0, .int .u32 0, .int .u32 0, .int .u32 0]⟩ := rfl
theorem tl109 : look TT 109 = some ⟨.func, 1, 8, .nilFunc⟩ := rfl
theorem tl110 : look TT 110 = some ⟨.func, 1, 8, .nilFunc⟩ := rfl
theorem tl111 : look TT 111 = some ⟨.func, 1, 8, .nilFunc⟩ := rfl
theorem tl112 : look TT 112 = some ⟨.func, 1, 8, .nilFunc⟩ := rfl
theorem tl114 : look TT 114 = some ⟨.func, 1, 8, .nilFunc⟩ := rfl
theorem tl115 : look TT 115 = some ⟨.func, 1, 8, .nilFunc⟩ := rfl
theorem tl117 : look TT 117 = some ⟨.func, 1, 8, .nilFunc⟩ := rfl
theorem tl119 : look TT 119 = some ⟨.func, 1, 8, .nilFunc⟩ := rfl
theorem tl120 : look TT 120 = some ⟨.ptr 5, 1, 8, .pointer none⟩ := rfl
theorem tl121 : look TT 121 = some ⟨.func, 1, 8, .nilFunc⟩ := rfl
theorem tl122 : look TT 122 = some ⟨.func, 1, 8, .nilFunc⟩ := rfl
theorem tl125 : look TT 125 = some ⟨.func, 1, 8, .nilFunc⟩ := rfl
theorem tl126 : look TT 126 = some ⟨.func, 1, 8, .nilFunc⟩ := rfl
theorem tl127 : look TT 127 = some ⟨.func, 1, 8, .nilFunc⟩ := rfl
theorem tl128 : look TT 128 = some ⟨.func, 1, 8, .nilFunc⟩ := rfl
theorem tl129 : look TT 129 = some ⟨.func, 1, 8, .nilFunc⟩ := rfl
theorem tl130 : look TT 130 = some ⟨.func, 1, 8, .nilFunc⟩ := rfl
theorem tl131 : look TT 131 = some ⟨.array 24 5, 24, 24, .agg #[.int .u8 0, .int .u8 0, .int .u8 0, .int .u8 0, .int .u8 0, .int .u8 0, .int .u8 0, .int .u8 0, .int .u8 0, .int .u8 0, .int .u8 0, .int .u8 0, .int .u8 0, .int .u8 0, .int .u8 0, .int .u8 0, .int .u8 0, .int .u8 0, .int .u8 0, .int .u8 0, .int .u8 0, .int .u8 0, .int .u8 0, .int .u8 0]⟩ := rfl
theorem tl132 : look TT 132 = some ⟨.func, 1, 8, .nilFunc⟩ := rfl
theorem tl134 : look TT 134 = some ⟨.func, 1, 8, .nilFunc⟩ := rfl
theorem tl136 : look TT 136 = some ⟨.func, 1, 8, .nilFunc⟩ := rfl
theorem tl137 : look TT 137 = some ⟨.func, 1, 8, .nilFunc⟩ := rfl
theorem tl139 : look TT 139 = some ⟨.func, 1, 8, .nilFunc⟩ := rfl
theorem tl140 : look TT 140 = some ⟨.func, 1, 8, .nilFunc⟩ := rfl
theorem tl141 : look TT 141 = some ⟨.func, 1, 8, .nilFunc⟩ := rfl
theorem tl142 : look TT 142 = some ⟨.ptr 3, 1, 8, .pointer none⟩ := rfl
theorem tl143 : look TT 143 = some ⟨.func, 1, 8, .nilFunc⟩ := rfl
theorem tl144 : look TT 144 = some ⟨.func, 1, 8, .nilFunc⟩ := rfl
theorem tl145 : look TT 145 = some ⟨.func, 1, 8, .nilFunc⟩ := rfl
theorem tl146 : look TT 146 = some ⟨.array 20 61, 20, 160, .agg #[.int .u64 0, .int .u64 0, .int .u64 0, .int .u64 0, .int .u64 0, .int .u64 0, .int .u64 0, .int .u64 0, .int .u64 0, .int .u64 0, .int .u64 0, .int .u64 0, .int .u64 0, .int .u64 0, .int .u64 0, .int .u64 0, .int .u64 0, .int .u64 0, .int .u64 0, .int .u64 0]⟩ := rfl
theorem tl147 : look TT 147 = some ⟨.array 65 5, 65, 65, .agg #[.int .u8 0, .int .u8 0, .int .u8 0, .int .u8 0, .int .u8 0, .int .u8 0, .int .u8 0, .int .u8 0, .int .u8 0, .int .u8 0, .int .u8 0, .int .u8 0, .int .u8 0, .int .u8 0, .int .u8 0, .int .u8 0, .int .u8 0, .int .u8 0, .int .u8 0, .int .u8 0, .int .u8 0, .int .u8 0, .int .u8 0, .int .u8 0, .int .u8 0, .int .u8 0, .int .u8 0, .int .u8 0, .int .u8 0, .int .u8 0, .int .u8 0, .int .u8 0, .int .u8 0, .int .u8 0, .int .u8 0, .int .u8 0, .int .u8 0, .int .u8 0, .int .u8 0, .int .u8 0, .int .u8 0, .int .u8 0, .int .u8 0, .int .u8 0, .int .u8 0, .int .u8 0, .int .u8 0, .int .u8 0, .int .u8 0, .int .u8 0, .int .u8 0, .int .u8 0, .int .u8 0, .int .u8 0, .int .u8 0, .int .u8 0, .int .u8 0, .int .u8 0, .int .u8 0, .int .u8 0, .int .u8 0, .int .u8 0, .int .u8 0, .int .u8 0, .int .u8 0]⟩ := rfl
theorem tl148 : look TT 148 = some ⟨.ptr 138, 1, 8, .pointer none⟩ := rfl
theorem tl149 : look TT 149 = some ⟨.func, 1, 8, .nilFunc⟩ := rfl
theorem tl150 : look TT 150 = some ⟨.array 32 5, 32, 32, .agg #[.int .u8 0, .int .u8 0, .int .u8 0, .int .u8 0, .int .u8 0, .int .u8 0, .int .u8 0, .int .u8 0, .int .u8 0, .int .u8 0, .int .u8 0, .int .u8 0, .int .u8 0, .int .u8 0, .int .u8 0, .int .u8 0, .int .u8 0, .int .u8 0, .int .u8 0, .int .u8 0, .int .u8 0, .int .u8 0, .int .u8 0, .int .u8 0, .int .u8 0, .int .u8 0, .int .u8 0, .int .u8 0, .int .u8 0, .int .u8 0, .int .u8 0, .int .u8 0]⟩ := rfl
theorem tl151 : look TT 151 = some ⟨.array 64 5, 64, 64, .agg #[.int .u8 0, .int .u8 0, .int .u8 0, .int .u8 0, .int .u8 0, .int .u8 0, .int .u8 0, .int .u8 0, .int .u8 0, .int .u8 0, .int .u8 0, .int .u8 0, .int .u8 0, .int .u8 0, .int .u8 0, .int .u8 0, .int .u8 0, .int .u8 0, .int .u8 0, .int .u8 0, .int .u8 0, .int .u8 0, .int .u8 0, .int .u8 0, .int .u8 0, .int .u8 0, .int .u8 0, .int .u8 0, .int .u8 0, .int .u8 0, .int .u8 0, .int .u8 0, .int .u8 0, .int .u8 0, .int .u8 0, .int .u8 0, .int .u8 0, .int .u8 0, .int .u8 0, .int .u8 0, .int .u8 0, .int .u8 0, .int .u8 0, .int .u8 0, .int .u8 0, .int .u8 0, .int .u8 0, .int .u8 0, .int .u8 0, .int .u8 0, .int .u8 0, .int .u8 0, .int .u8 0, .int .u8 0, .int .u8 0, .int .u8 0, .int .u8 0, .int .u8 0, .int .u8 0, .int .u8 0, .int .u8 0, .int .u8 0, .int .u8 0, .int .u8 0]⟩ := rfl
theorem tl152 : look TT 152 = some ⟨.struct [(0, 17), (1, 17), (2, 17), (3, 9)], 4, 40, .agg #[.pointer none, .pointer none, .pointer none, .string ByteArray.empty]⟩ := rfl
theorem tl153 : look TT 153 = some ⟨.struct [(0, 17), (1, 17), (2, 17), (3, 9)], 4, 40, .agg #[.pointer none, .pointer none, .pointer none, .string ByteArray.empty]⟩ := rfl
theorem tl154 : look TT 154 = some ⟨.array 0 16, 0, 0, .agg #[]⟩ := rfl
theorem tl155 : look TT 155 = some ⟨.struct [(0, 154)], 0, 0, .agg #[]⟩ := rfl
theorem tl156 : look TT 156 = some ⟨.struct [(0, 154)], 0, 0, .agg #[]⟩ := rfl
theorem tl159 : look TT 159 = some ⟨.func, 1, 8, .nilFunc⟩ := rfl
theorem tl162 : look TT 162 = some ⟨.struct [(0, 12), (1, 12), (2, 86), (3, 157), (4, 5), (5, 5), (6, 158), (7, 159), (8, 120), (9, 160), (10, 161)], 11, 48, .agg #[.int .u64 0, .int .u64 0, .int .u32 0, .int .u8 0, .int .u8 0, .int .u8 0, .int .u8 0, .nilFunc, .pointer none, .int .i32 0, .int .i32 0]⟩ := rfl
theorem tl163 : look TT 163 = some ⟨.struct [(0, 12), (1, 12), (2, 86), (3, 157), (4, 5), (5, 5), (6, 158), (7, 159), (8, 120), (9, 160), (10, 161)], 11, 48, .agg #[.int .u64 0, .int .u64 0, .int .u32 0, .int .u8 0, .int .u8 0, .int .u8 0, .int .u8 0, .nilFunc, .pointer none, .int .i32 0, .int .i32 0]⟩ := rfl
theorem mixed : Tryd.prog.follows .mixedOrders = true := by kernel_rfl
end Go.Proofs.YtjafamiaahabgaaDoor
