/- The table of this translation's types, printed by gen_types.py. Nothing is claimed here. -/
import Derived.Test.YtjafamiaahabgaaGreatDoorVV
import Derived.Test.YtjafamiaahabgaaGreatDoorChecked
namespace Go.Proofs.YtjafamiaahabgaaGreatDoor
set_option maxRecDepth 20000
theorem ty2 : TdOk Tryz.prog 2 ⟨.int .i64, 1, 8, .int .i64 0⟩ := ⟨by kernel_rfl, by kernel_rfl⟩
theorem ty3 : TdOk Tryz.prog 3 ⟨.int .i64, 1, 8, .int .i64 0⟩ := ⟨by kernel_rfl, by kernel_rfl⟩
theorem ty4 : TdOk Tryz.prog 4 ⟨.bool, 1, 1, .bool false⟩ := ⟨by kernel_rfl, by kernel_rfl⟩
theorem ty5 : TdOk Tryz.prog 5 ⟨.int .u8, 1, 1, .int .u8 0⟩ := ⟨by kernel_rfl, by kernel_rfl⟩
theorem ty6 : TdOk Tryz.prog 6 ⟨.int .u8, 1, 1, .int .u8 0⟩ := ⟨by kernel_rfl, by kernel_rfl⟩
theorem ty12 : TdOk Tryz.prog 12 ⟨.int .u64, 1, 8, .int .u64 0⟩ := ⟨by kernel_rfl, by kernel_rfl⟩
theorem ty21 : TdOk Tryz.prog 21 ⟨.int .i32, 1, 4, .int .i32 0⟩ := ⟨by kernel_rfl, by kernel_rfl⟩
theorem ty22 : TdOk Tryz.prog 22 ⟨.slice 23, 1, 24, .slice none 0 0⟩ := ⟨by kernel_rfl, by kernel_rfl⟩
theorem ty23 : TdOk Tryz.prog 23 ⟨.slice 5, 1, 24, .slice none 0 0⟩ := ⟨by kernel_rfl, by kernel_rfl⟩
theorem ty25 : TdOk Tryz.prog 25 ⟨.int .i64, 1, 8, .int .i64 0⟩ := ⟨by kernel_rfl, by kernel_rfl⟩
theorem ty45 : TdOk Tryz.prog 45 ⟨.slice 58, 1, 24, .slice none 0 0⟩ := ⟨by kernel_rfl, by kernel_rfl⟩
theorem ty63 : TdOk Tryz.prog 63 ⟨.slice 75, 1, 24, .slice none 0 0⟩ := ⟨by kernel_rfl, by kernel_rfl⟩
theorem ty66 : TdOk Tryz.prog 66 ⟨.slice 9, 1, 24, .slice none 0 0⟩ := ⟨by kernel_rfl, by kernel_rfl⟩
theorem ty74 : TdOk Tryz.prog 74 ⟨.int .u64, 1, 8, .int .u64 0⟩ := ⟨by kernel_rfl, by kernel_rfl⟩
theorem ty78 : TdOk Tryz.prog 78 ⟨.slice 3, 1, 24, .slice none 0 0⟩ := ⟨by kernel_rfl, by kernel_rfl⟩
theorem ty88 : TdOk Tryz.prog 88 ⟨.slice 95, 1, 24, .slice none 0 0⟩ := ⟨by kernel_rfl, by kernel_rfl⟩
theorem ty119 : TdOk Tryz.prog 119 ⟨.int .u32, 1, 4, .int .u32 0⟩ := ⟨by kernel_rfl, by kernel_rfl⟩
theorem ty121 : TdOk Tryz.prog 121 ⟨.int .u64, 1, 8, .int .u64 0⟩ := ⟨by kernel_rfl, by kernel_rfl⟩
theorem ty126 : TdOk Tryz.prog 126 ⟨.slice 133, 1, 24, .slice none 0 0⟩ := ⟨by kernel_rfl, by kernel_rfl⟩
theorem ty173 : TdOk Tryz.prog 173 ⟨.int .i64, 1, 8, .int .i64 0⟩ := ⟨by kernel_rfl, by kernel_rfl⟩
theorem ty188 : TdOk Tryz.prog 188 ⟨.int .u64, 1, 8, .int .u64 0⟩ := ⟨by kernel_rfl, by kernel_rfl⟩
theorem ty206 : TdOk Tryz.prog 206 ⟨.int .u8, 1, 1, .int .u8 0⟩ := ⟨by kernel_rfl, by kernel_rfl⟩
theorem ty207 : TdOk Tryz.prog 207 ⟨.int .u8, 1, 1, .int .u8 0⟩ := ⟨by kernel_rfl, by kernel_rfl⟩
theorem ty209 : TdOk Tryz.prog 209 ⟨.int .i32, 1, 4, .int .i32 0⟩ := ⟨by kernel_rfl, by kernel_rfl⟩
theorem ty210 : TdOk Tryz.prog 210 ⟨.int .i32, 1, 4, .int .i32 0⟩ := ⟨by kernel_rfl, by kernel_rfl⟩
theorem ty1 : TdOk Tryz.prog 1 ⟨.func, 1, 8, .nilFunc⟩ := ⟨by kernel_rfl, by kernel_rfl⟩
theorem ty7 : TdOk Tryz.prog 7 ⟨.struct [(0, 2), (1, 3), (2, 4), (3, 6)], 4, 24, .agg #[.int .i64 0, .int .i64 0, .bool false, .int .u8 0]⟩ := ⟨by kernel_rfl, by kernel_rfl⟩
theorem ty8 : TdOk Tryz.prog 8 ⟨.struct [(0, 2), (1, 3), (2, 4), (3, 6)], 4, 24, .agg #[.int .i64 0, .int .i64 0, .bool false, .int .u8 0]⟩ := ⟨by kernel_rfl, by kernel_rfl⟩
theorem ty9 : TdOk Tryz.prog 9 ⟨.str, 1, 16, .string ByteArray.empty⟩ := ⟨by kernel_rfl, by kernel_rfl⟩
theorem ty10 : TdOk Tryz.prog 10 ⟨.str, 1, 16, .string ByteArray.empty⟩ := ⟨by kernel_rfl, by kernel_rfl⟩
theorem ty11 : TdOk Tryz.prog 11 ⟨.str, 1, 16, .string ByteArray.empty⟩ := ⟨by kernel_rfl, by kernel_rfl⟩
theorem ty13 : TdOk Tryz.prog 13 ⟨.struct [(0, 9), (1, 12)], 2, 24, .agg #[.string ByteArray.empty, .int .u64 0]⟩ := ⟨by kernel_rfl, by kernel_rfl⟩
theorem ty14 : TdOk Tryz.prog 14 ⟨.struct [(0, 9), (1, 12)], 2, 24, .agg #[.string ByteArray.empty, .int .u64 0]⟩ := ⟨by kernel_rfl, by kernel_rfl⟩
theorem ty15 : TdOk Tryz.prog 15 ⟨.ptr 202, 1, 8, .pointer none⟩ := ⟨by kernel_rfl, by kernel_rfl⟩
theorem ty16 : TdOk Tryz.prog 16 ⟨.ptr 205, 1, 8, .pointer none⟩ := ⟨by kernel_rfl, by kernel_rfl⟩
theorem ty17 : TdOk Tryz.prog 17 ⟨.ptr 212, 1, 8, .pointer none⟩ := ⟨by kernel_rfl, by kernel_rfl⟩
theorem ty18 : TdOk Tryz.prog 18 ⟨.struct [(0, 17)], 1, 8, .agg #[.pointer none]⟩ := ⟨by kernel_rfl, by kernel_rfl⟩
theorem ty19 : TdOk Tryz.prog 19 ⟨.struct [(0, 17)], 1, 8, .agg #[.pointer none]⟩ := ⟨by kernel_rfl, by kernel_rfl⟩
theorem ty20 : TdOk Tryz.prog 20 ⟨.iface, 1, 16, .nilIface⟩ := ⟨by kernel_rfl, by kernel_rfl⟩
theorem ty24 : TdOk Tryz.prog 24 ⟨.ptr 62, 1, 8, .pointer none⟩ := ⟨by kernel_rfl, by kernel_rfl⟩
theorem ty27 : TdOk Tryz.prog 27 ⟨.func, 1, 8, .nilFunc⟩ := ⟨by kernel_rfl, by kernel_rfl⟩
theorem ty28 : TdOk Tryz.prog 28 ⟨.ptr 65, 1, 8, .pointer none⟩ := ⟨by kernel_rfl, by kernel_rfl⟩
theorem ty30 : TdOk Tryz.prog 30 ⟨.func, 1, 8, .nilFunc⟩ := ⟨by kernel_rfl, by kernel_rfl⟩
theorem ty32 : TdOk Tryz.prog 32 ⟨.func, 1, 8, .nilFunc⟩ := ⟨by kernel_rfl, by kernel_rfl⟩
theorem ty33 : TdOk Tryz.prog 33 ⟨.func, 1, 8, .nilFunc⟩ := ⟨by kernel_rfl, by kernel_rfl⟩
theorem ty34 : TdOk Tryz.prog 34 ⟨.func, 1, 8, .nilFunc⟩ := ⟨by kernel_rfl, by kernel_rfl⟩
theorem ty36 : TdOk Tryz.prog 36 ⟨.func, 1, 8, .nilFunc⟩ := ⟨by kernel_rfl, by kernel_rfl⟩
theorem ty38 : TdOk Tryz.prog 38 ⟨.func, 1, 8, .nilFunc⟩ := ⟨by kernel_rfl, by kernel_rfl⟩
theorem ty39 : TdOk Tryz.prog 39 ⟨.func, 1, 8, .nilFunc⟩ := ⟨by kernel_rfl, by kernel_rfl⟩
theorem ty40 : TdOk Tryz.prog 40 ⟨.func, 1, 8, .nilFunc⟩ := ⟨by kernel_rfl, by kernel_rfl⟩
theorem ty41 : TdOk Tryz.prog 41 ⟨.func, 1, 8, .nilFunc⟩ := ⟨by kernel_rfl, by kernel_rfl⟩
theorem ty42 : TdOk Tryz.prog 42 ⟨.func, 1, 8, .nilFunc⟩ := ⟨by kernel_rfl, by kernel_rfl⟩
theorem ty43 : TdOk Tryz.prog 43 ⟨.func, 1, 8, .nilFunc⟩ := ⟨by kernel_rfl, by kernel_rfl⟩
theorem ty44 : TdOk Tryz.prog 44 ⟨.func, 1, 8, .nilFunc⟩ := ⟨by kernel_rfl, by kernel_rfl⟩
theorem ty46 : TdOk Tryz.prog 46 ⟨.func, 1, 8, .nilFunc⟩ := ⟨by kernel_rfl, by kernel_rfl⟩
theorem ty47 : TdOk Tryz.prog 47 ⟨.ptr 90, 1, 8, .pointer none⟩ := ⟨by kernel_rfl, by kernel_rfl⟩
theorem ty49 : TdOk Tryz.prog 49 ⟨.func, 1, 8, .nilFunc⟩ := ⟨by kernel_rfl, by kernel_rfl⟩
theorem ty50 : TdOk Tryz.prog 50 ⟨.func, 1, 8, .nilFunc⟩ := ⟨by kernel_rfl, by kernel_rfl⟩
theorem ty51 : TdOk Tryz.prog 51 ⟨.func, 1, 8, .nilFunc⟩ := ⟨by kernel_rfl, by kernel_rfl⟩
theorem ty52 : TdOk Tryz.prog 52 ⟨.ptr 55, 1, 8, .pointer none⟩ := ⟨by kernel_rfl, by kernel_rfl⟩
theorem ty53 : TdOk Tryz.prog 53 ⟨.ptr 128, 1, 8, .pointer none⟩ := ⟨by kernel_rfl, by kernel_rfl⟩
theorem ty54 : TdOk Tryz.prog 54 ⟨.struct [(0, 24), (1, 47), (2, 28), (3, 53)], 4, 32, .agg #[.pointer none, .pointer none, .pointer none, .pointer none]⟩ := ⟨by kernel_rfl, by kernel_rfl⟩
theorem ty55 : TdOk Tryz.prog 55 ⟨.struct [(0, 24), (1, 47), (2, 28), (3, 53)], 4, 32, .agg #[.pointer none, .pointer none, .pointer none, .pointer none]⟩ := ⟨by kernel_rfl, by kernel_rfl⟩
theorem ty56 : TdOk Tryz.prog 56 ⟨.func, 1, 8, .nilFunc⟩ := ⟨by kernel_rfl, by kernel_rfl⟩
theorem ty57 : TdOk Tryz.prog 57 ⟨.struct [(0, 3), (1, 3), (2, 3), (3, 23), (4, 5)], 5, 56, .agg #[.int .i64 0, .int .i64 0, .int .i64 0, .slice none 0 0, .int .u8 0]⟩ := ⟨by kernel_rfl, by kernel_rfl⟩
theorem ty58 : TdOk Tryz.prog 58 ⟨.struct [(0, 3), (1, 3), (2, 3), (3, 23), (4, 5)], 5, 56, .agg #[.int .i64 0, .int .i64 0, .int .i64 0, .slice none 0 0, .int .u8 0]⟩ := ⟨by kernel_rfl, by kernel_rfl⟩
theorem ty59 : TdOk Tryz.prog 59 ⟨.func, 1, 8, .nilFunc⟩ := ⟨by kernel_rfl, by kernel_rfl⟩
theorem ty60 : TdOk Tryz.prog 60 ⟨.map 9 86, 1, 8, .map none⟩ := ⟨by kernel_rfl, by kernel_rfl⟩
theorem ty61 : TdOk Tryz.prog 61 ⟨.struct [(0, 3), (1, 3), (2, 60)], 3, 24, .agg #[.int .i64 0, .int .i64 0, .map none]⟩ := ⟨by kernel_rfl, by kernel_rfl⟩
theorem ty62 : TdOk Tryz.prog 62 ⟨.struct [(0, 3), (1, 3), (2, 60)], 3, 24, .agg #[.int .i64 0, .int .i64 0, .map none]⟩ := ⟨by kernel_rfl, by kernel_rfl⟩
theorem ty64 : TdOk Tryz.prog 64 ⟨.struct [(0, 24), (1, 9), (2, 63), (3, 3)], 4, 56, .agg #[.pointer none, .string ByteArray.empty, .slice none 0 0, .int .i64 0]⟩ := ⟨by kernel_rfl, by kernel_rfl⟩
theorem ty65 : TdOk Tryz.prog 65 ⟨.struct [(0, 24), (1, 9), (2, 63), (3, 3)], 4, 56, .agg #[.pointer none, .string ByteArray.empty, .slice none 0 0, .int .i64 0]⟩ := ⟨by kernel_rfl, by kernel_rfl⟩
theorem ty67 : TdOk Tryz.prog 67 ⟨.func, 1, 8, .nilFunc⟩ := ⟨by kernel_rfl, by kernel_rfl⟩
theorem ty69 : TdOk Tryz.prog 69 ⟨.func, 1, 8, .nilFunc⟩ := ⟨by kernel_rfl, by kernel_rfl⟩
theorem ty70 : TdOk Tryz.prog 70 ⟨.func, 1, 8, .nilFunc⟩ := ⟨by kernel_rfl, by kernel_rfl⟩
theorem ty71 : TdOk Tryz.prog 71 ⟨.func, 1, 8, .nilFunc⟩ := ⟨by kernel_rfl, by kernel_rfl⟩
theorem ty72 : TdOk Tryz.prog 72 ⟨.func, 1, 8, .nilFunc⟩ := ⟨by kernel_rfl, by kernel_rfl⟩
theorem ty73 : TdOk Tryz.prog 73 ⟨.func, 1, 8, .nilFunc⟩ := ⟨by kernel_rfl, by kernel_rfl⟩
theorem ty75 : TdOk Tryz.prog 75 ⟨.ptr 80, 1, 8, .pointer none⟩ := ⟨by kernel_rfl, by kernel_rfl⟩
theorem ty76 : TdOk Tryz.prog 76 ⟨.func, 1, 8, .nilFunc⟩ := ⟨by kernel_rfl, by kernel_rfl⟩
theorem ty77 : TdOk Tryz.prog 77 ⟨.func, 1, 8, .nilFunc⟩ := ⟨by kernel_rfl, by kernel_rfl⟩
theorem ty79 : TdOk Tryz.prog 79 ⟨.struct [(0, 3), (1, 22), (2, 78), (3, 4)], 4, 64, .agg #[.int .i64 0, .slice none 0 0, .slice none 0 0, .bool false]⟩ := ⟨by kernel_rfl, by kernel_rfl⟩
theorem ty80 : TdOk Tryz.prog 80 ⟨.struct [(0, 3), (1, 22), (2, 78), (3, 4)], 4, 64, .agg #[.int .i64 0, .slice none 0 0, .slice none 0 0, .bool false]⟩ := ⟨by kernel_rfl, by kernel_rfl⟩
theorem ty81 : TdOk Tryz.prog 81 ⟨.func, 1, 8, .nilFunc⟩ := ⟨by kernel_rfl, by kernel_rfl⟩
theorem ty82 : TdOk Tryz.prog 82 ⟨.func, 1, 8, .nilFunc⟩ := ⟨by kernel_rfl, by kernel_rfl⟩
theorem ty83 : TdOk Tryz.prog 83 ⟨.func, 1, 8, .nilFunc⟩ := ⟨by kernel_rfl, by kernel_rfl⟩
theorem ty84 : TdOk Tryz.prog 84 ⟨.func, 1, 8, .nilFunc⟩ := ⟨by kernel_rfl, by kernel_rfl⟩
theorem ty85 : TdOk Tryz.prog 85 ⟨.struct [(0, 23), (1, 3)], 2, 32, .agg #[.slice none 0 0, .int .i64 0]⟩ := ⟨by kernel_rfl, by kernel_rfl⟩
theorem ty86 : TdOk Tryz.prog 86 ⟨.struct [(0, 23), (1, 3)], 2, 32, .agg #[.slice none 0 0, .int .i64 0]⟩ := ⟨by kernel_rfl, by kernel_rfl⟩
theorem ty87 : TdOk Tryz.prog 87 ⟨.func, 1, 8, .nilFunc⟩ := ⟨by kernel_rfl, by kernel_rfl⟩
theorem ty89 : TdOk Tryz.prog 89 ⟨.struct [(0, 3), (1, 88)], 2, 32, .agg #[.int .i64 0, .slice none 0 0]⟩ := ⟨by kernel_rfl, by kernel_rfl⟩
theorem ty90 : TdOk Tryz.prog 90 ⟨.struct [(0, 3), (1, 88)], 2, 32, .agg #[.int .i64 0, .slice none 0 0]⟩ := ⟨by kernel_rfl, by kernel_rfl⟩
theorem ty91 : TdOk Tryz.prog 91 ⟨.func, 1, 8, .nilFunc⟩ := ⟨by kernel_rfl, by kernel_rfl⟩
theorem ty93 : TdOk Tryz.prog 93 ⟨.func, 1, 8, .nilFunc⟩ := ⟨by kernel_rfl, by kernel_rfl⟩
theorem ty94 : TdOk Tryz.prog 94 ⟨.struct [(0, 9), (1, 23), (2, 3)], 3, 48, .agg #[.string ByteArray.empty, .slice none 0 0, .int .i64 0]⟩ := ⟨by kernel_rfl, by kernel_rfl⟩
theorem ty95 : TdOk Tryz.prog 95 ⟨.struct [(0, 9), (1, 23), (2, 3)], 3, 48, .agg #[.string ByteArray.empty, .slice none 0 0, .int .i64 0]⟩ := ⟨by kernel_rfl, by kernel_rfl⟩
theorem ty97 : TdOk Tryz.prog 97 ⟨.func, 1, 8, .nilFunc⟩ := ⟨by kernel_rfl, by kernel_rfl⟩
theorem ty98 : TdOk Tryz.prog 98 ⟨.func, 1, 8, .nilFunc⟩ := ⟨by kernel_rfl, by kernel_rfl⟩
theorem ty99 : TdOk Tryz.prog 99 ⟨.func, 1, 8, .nilFunc⟩ := ⟨by kernel_rfl, by kernel_rfl⟩
theorem ty101 : TdOk Tryz.prog 101 ⟨.func, 1, 8, .nilFunc⟩ := ⟨by kernel_rfl, by kernel_rfl⟩
theorem ty102 : TdOk Tryz.prog 102 ⟨.func, 1, 8, .nilFunc⟩ := ⟨by kernel_rfl, by kernel_rfl⟩
theorem ty103 : TdOk Tryz.prog 103 ⟨.func, 1, 8, .nilFunc⟩ := ⟨by kernel_rfl, by kernel_rfl⟩
theorem ty104 : TdOk Tryz.prog 104 ⟨.func, 1, 8, .nilFunc⟩ := ⟨by kernel_rfl, by kernel_rfl⟩
theorem ty105 : TdOk Tryz.prog 105 ⟨.func, 1, 8, .nilFunc⟩ := ⟨by kernel_rfl, by kernel_rfl⟩
theorem ty106 : TdOk Tryz.prog 106 ⟨.func, 1, 8, .nilFunc⟩ := ⟨by kernel_rfl, by kernel_rfl⟩
theorem ty107 : TdOk Tryz.prog 107 ⟨.func, 1, 8, .nilFunc⟩ := ⟨by kernel_rfl, by kernel_rfl⟩
theorem ty108 : TdOk Tryz.prog 108 ⟨.func, 1, 8, .nilFunc⟩ := ⟨by kernel_rfl, by kernel_rfl⟩
theorem ty109 : TdOk Tryz.prog 109 ⟨.func, 1, 8, .nilFunc⟩ := ⟨by kernel_rfl, by kernel_rfl⟩
theorem ty110 : TdOk Tryz.prog 110 ⟨.func, 1, 8, .nilFunc⟩ := ⟨by kernel_rfl, by kernel_rfl⟩
theorem ty112 : TdOk Tryz.prog 112 ⟨.func, 1, 8, .nilFunc⟩ := ⟨by kernel_rfl, by kernel_rfl⟩
theorem ty113 : TdOk Tryz.prog 113 ⟨.func, 1, 8, .nilFunc⟩ := ⟨by kernel_rfl, by kernel_rfl⟩
theorem ty115 : TdOk Tryz.prog 115 ⟨.func, 1, 8, .nilFunc⟩ := ⟨by kernel_rfl, by kernel_rfl⟩
theorem ty117 : TdOk Tryz.prog 117 ⟨.func, 1, 8, .nilFunc⟩ := ⟨by kernel_rfl, by kernel_rfl⟩
theorem ty118 : TdOk Tryz.prog 118 ⟨.func, 1, 8, .nilFunc⟩ := ⟨by kernel_rfl, by kernel_rfl⟩
theorem ty120 : TdOk Tryz.prog 120 ⟨.func, 1, 8, .nilFunc⟩ := ⟨by kernel_rfl, by kernel_rfl⟩
theorem ty122 : TdOk Tryz.prog 122 ⟨.func, 1, 8, .nilFunc⟩ := ⟨by kernel_rfl, by kernel_rfl⟩
theorem ty123 : TdOk Tryz.prog 123 ⟨.func, 1, 8, .nilFunc⟩ := ⟨by kernel_rfl, by kernel_rfl⟩
theorem ty124 : TdOk Tryz.prog 124 ⟨.func, 1, 8, .nilFunc⟩ := ⟨by kernel_rfl, by kernel_rfl⟩
theorem ty125 : TdOk Tryz.prog 125 ⟨.func, 1, 8, .nilFunc⟩ := ⟨by kernel_rfl, by kernel_rfl⟩
theorem ty127 : TdOk Tryz.prog 127 ⟨.struct [(0, 47), (1, 9), (2, 126), (3, 3), (4, 78)], 5, 80, .agg #[.pointer none, .string ByteArray.empty, .slice none 0 0, .int .i64 0, .slice none 0 0]⟩ := ⟨by kernel_rfl, by kernel_rfl⟩
theorem ty128 : TdOk Tryz.prog 128 ⟨.struct [(0, 47), (1, 9), (2, 126), (3, 3), (4, 78)], 5, 80, .agg #[.pointer none, .string ByteArray.empty, .slice none 0 0, .int .i64 0, .slice none 0 0]⟩ := ⟨by kernel_rfl, by kernel_rfl⟩
theorem ty129 : TdOk Tryz.prog 129 ⟨.func, 1, 8, .nilFunc⟩ := ⟨by kernel_rfl, by kernel_rfl⟩
theorem ty130 : TdOk Tryz.prog 130 ⟨.func, 1, 8, .nilFunc⟩ := ⟨by kernel_rfl, by kernel_rfl⟩
theorem ty131 : TdOk Tryz.prog 131 ⟨.func, 1, 8, .nilFunc⟩ := ⟨by kernel_rfl, by kernel_rfl⟩
theorem ty132 : TdOk Tryz.prog 132 ⟨.struct [(0, 3), (1, 22)], 2, 32, .agg #[.int .i64 0, .slice none 0 0]⟩ := ⟨by kernel_rfl, by kernel_rfl⟩
theorem ty133 : TdOk Tryz.prog 133 ⟨.struct [(0, 3), (1, 22)], 2, 32, .agg #[.int .i64 0, .slice none 0 0]⟩ := ⟨by kernel_rfl, by kernel_rfl⟩
theorem ty135 : TdOk Tryz.prog 135 ⟨.func, 1, 8, .nilFunc⟩ := ⟨by kernel_rfl, by kernel_rfl⟩
theorem ty136 : TdOk Tryz.prog 136 ⟨.func, 1, 8, .nilFunc⟩ := ⟨by kernel_rfl, by kernel_rfl⟩
theorem ty137 : TdOk Tryz.prog 137 ⟨.func, 1, 8, .nilFunc⟩ := ⟨by kernel_rfl, by kernel_rfl⟩
theorem ty138 : TdOk Tryz.prog 138 ⟨.func, 1, 8, .nilFunc⟩ := ⟨by kernel_rfl, by kernel_rfl⟩
theorem ty140 : TdOk Tryz.prog 140 ⟨.func, 1, 8, .nilFunc⟩ := ⟨by kernel_rfl, by kernel_rfl⟩
theorem ty141 : TdOk Tryz.prog 141 ⟨.func, 1, 8, .nilFunc⟩ := ⟨by kernel_rfl, by kernel_rfl⟩
theorem ty142 : TdOk Tryz.prog 142 ⟨.array 16 119, 16, 64, .agg #[.int .u32 0, .int .u32 0, .int .u32 0, .int .u32 0, .int .u32 0, .int .u32 0, .int .u32 0, .int .u32 0, .int .u32 0, .int .u32 0, .int .u32 0, .int .u32 0, .int .u32 0, .int .u32 0, .int .u32 0, .int .u32 0]⟩ := ⟨by kernel_rfl, by kernel_rfl⟩
theorem ty143 : TdOk Tryz.prog 143 ⟨.func, 1, 8, .nilFunc⟩ := ⟨by kernel_rfl, by kernel_rfl⟩
theorem ty145 : TdOk Tryz.prog 145 ⟨.func, 1, 8, .nilFunc⟩ := ⟨by kernel_rfl, by kernel_rfl⟩
theorem ty146 : TdOk Tryz.prog 146 ⟨.func, 1, 8, .nilFunc⟩ := ⟨by kernel_rfl, by kernel_rfl⟩
theorem ty147 : TdOk Tryz.prog 147 ⟨.ptr 149, 1, 8, .pointer none⟩ := ⟨by kernel_rfl, by kernel_rfl⟩
theorem ty148 : TdOk Tryz.prog 148 ⟨.struct [(0, 147), (1, 23)], 2, 32, .agg #[.pointer none, .slice none 0 0]⟩ := ⟨by kernel_rfl, by kernel_rfl⟩
theorem ty149 : TdOk Tryz.prog 149 ⟨.struct [(0, 147), (1, 23)], 2, 32, .agg #[.pointer none, .slice none 0 0]⟩ := ⟨by kernel_rfl, by kernel_rfl⟩
theorem ty150 : TdOk Tryz.prog 150 ⟨.iface, 1, 16, .nilIface⟩ := ⟨by kernel_rfl, by kernel_rfl⟩
theorem ty151 : TdOk Tryz.prog 151 ⟨.iface, 1, 16, .nilIface⟩ := ⟨by kernel_rfl, by kernel_rfl⟩
theorem ty153 : TdOk Tryz.prog 153 ⟨.func, 1, 8, .nilFunc⟩ := ⟨by kernel_rfl, by kernel_rfl⟩
theorem ty154 : TdOk Tryz.prog 154 ⟨.func, 1, 8, .nilFunc⟩ := ⟨by kernel_rfl, by kernel_rfl⟩
theorem ty156 : TdOk Tryz.prog 156 ⟨.func, 1, 8, .nilFunc⟩ := ⟨by kernel_rfl, by kernel_rfl⟩
theorem ty158 : TdOk Tryz.prog 158 ⟨.func, 1, 8, .nilFunc⟩ := ⟨by kernel_rfl, by kernel_rfl⟩
theorem ty159 : TdOk Tryz.prog 159 ⟨.func, 1, 8, .nilFunc⟩ := ⟨by kernel_rfl, by kernel_rfl⟩
theorem ty160 : TdOk Tryz.prog 160 ⟨.func, 1, 8, .nilFunc⟩ := ⟨by kernel_rfl, by kernel_rfl⟩
theorem ty161 : TdOk Tryz.prog 161 ⟨.func, 1, 8, .nilFunc⟩ := ⟨by kernel_rfl, by kernel_rfl⟩
theorem ty162 : TdOk Tryz.prog 162 ⟨.func, 1, 8, .nilFunc⟩ := ⟨by kernel_rfl, by kernel_rfl⟩
theorem ty164 : TdOk Tryz.prog 164 ⟨.func, 1, 8, .nilFunc⟩ := ⟨by kernel_rfl, by kernel_rfl⟩
theorem ty165 : TdOk Tryz.prog 165 ⟨.func, 1, 8, .nilFunc⟩ := ⟨by kernel_rfl, by kernel_rfl⟩
theorem ty166 : TdOk Tryz.prog 166 ⟨.func, 1, 8, .nilFunc⟩ := ⟨by kernel_rfl, by kernel_rfl⟩
theorem ty168 : TdOk Tryz.prog 168 ⟨.func, 1, 8, .nilFunc⟩ := ⟨by kernel_rfl, by kernel_rfl⟩
theorem ty170 : TdOk Tryz.prog 170 ⟨.func, 1, 8, .nilFunc⟩ := ⟨by kernel_rfl, by kernel_rfl⟩
theorem ty171 : TdOk Tryz.prog 171 ⟨.ptr 5, 1, 8, .pointer none⟩ := ⟨by kernel_rfl, by kernel_rfl⟩
theorem ty172 : TdOk Tryz.prog 172 ⟨.func, 1, 8, .nilFunc⟩ := ⟨by kernel_rfl, by kernel_rfl⟩
theorem ty175 : TdOk Tryz.prog 175 ⟨.func, 1, 8, .nilFunc⟩ := ⟨by kernel_rfl, by kernel_rfl⟩
theorem ty176 : TdOk Tryz.prog 176 ⟨.func, 1, 8, .nilFunc⟩ := ⟨by kernel_rfl, by kernel_rfl⟩
theorem ty177 : TdOk Tryz.prog 177 ⟨.func, 1, 8, .nilFunc⟩ := ⟨by kernel_rfl, by kernel_rfl⟩
theorem ty178 : TdOk Tryz.prog 178 ⟨.func, 1, 8, .nilFunc⟩ := ⟨by kernel_rfl, by kernel_rfl⟩
theorem ty179 : TdOk Tryz.prog 179 ⟨.func, 1, 8, .nilFunc⟩ := ⟨by kernel_rfl, by kernel_rfl⟩
theorem ty180 : TdOk Tryz.prog 180 ⟨.func, 1, 8, .nilFunc⟩ := ⟨by kernel_rfl, by kernel_rfl⟩
theorem ty181 : TdOk Tryz.prog 181 ⟨.array 24 5, 24, 24, .agg #[.int .u8 0, .int .u8 0, .int .u8 0, .int .u8 0, .int .u8 0, .int .u8 0, .int .u8 0, .int .u8 0, .int .u8 0, .int .u8 0, .int .u8 0, .int .u8 0, .int .u8 0, .int .u8 0, .int .u8 0, .int .u8 0, .int .u8 0, .int .u8 0, .int .u8 0, .int .u8 0, .int .u8 0, .int .u8 0, .int .u8 0, .int .u8 0]⟩ := ⟨by kernel_rfl, by kernel_rfl⟩
theorem ty182 : TdOk Tryz.prog 182 ⟨.func, 1, 8, .nilFunc⟩ := ⟨by kernel_rfl, by kernel_rfl⟩
theorem ty184 : TdOk Tryz.prog 184 ⟨.func, 1, 8, .nilFunc⟩ := ⟨by kernel_rfl, by kernel_rfl⟩
theorem ty186 : TdOk Tryz.prog 186 ⟨.func, 1, 8, .nilFunc⟩ := ⟨by kernel_rfl, by kernel_rfl⟩
theorem ty187 : TdOk Tryz.prog 187 ⟨.func, 1, 8, .nilFunc⟩ := ⟨by kernel_rfl, by kernel_rfl⟩
theorem ty189 : TdOk Tryz.prog 189 ⟨.func, 1, 8, .nilFunc⟩ := ⟨by kernel_rfl, by kernel_rfl⟩
theorem ty190 : TdOk Tryz.prog 190 ⟨.func, 1, 8, .nilFunc⟩ := ⟨by kernel_rfl, by kernel_rfl⟩
theorem ty191 : TdOk Tryz.prog 191 ⟨.func, 1, 8, .nilFunc⟩ := ⟨by kernel_rfl, by kernel_rfl⟩
theorem ty192 : TdOk Tryz.prog 192 ⟨.ptr 3, 1, 8, .pointer none⟩ := ⟨by kernel_rfl, by kernel_rfl⟩
theorem ty193 : TdOk Tryz.prog 193 ⟨.func, 1, 8, .nilFunc⟩ := ⟨by kernel_rfl, by kernel_rfl⟩
theorem ty194 : TdOk Tryz.prog 194 ⟨.func, 1, 8, .nilFunc⟩ := ⟨by kernel_rfl, by kernel_rfl⟩
theorem ty195 : TdOk Tryz.prog 195 ⟨.array 20 74, 20, 160, .agg #[.int .u64 0, .int .u64 0, .int .u64 0, .int .u64 0, .int .u64 0, .int .u64 0, .int .u64 0, .int .u64 0, .int .u64 0, .int .u64 0, .int .u64 0, .int .u64 0, .int .u64 0, .int .u64 0, .int .u64 0, .int .u64 0, .int .u64 0, .int .u64 0, .int .u64 0, .int .u64 0]⟩ := ⟨by kernel_rfl, by kernel_rfl⟩
theorem ty196 : TdOk Tryz.prog 196 ⟨.array 65 5, 65, 65, .agg #[.int .u8 0, .int .u8 0, .int .u8 0, .int .u8 0, .int .u8 0, .int .u8 0, .int .u8 0, .int .u8 0, .int .u8 0, .int .u8 0, .int .u8 0, .int .u8 0, .int .u8 0, .int .u8 0, .int .u8 0, .int .u8 0, .int .u8 0, .int .u8 0, .int .u8 0, .int .u8 0, .int .u8 0, .int .u8 0, .int .u8 0, .int .u8 0, .int .u8 0, .int .u8 0, .int .u8 0, .int .u8 0, .int .u8 0, .int .u8 0, .int .u8 0, .int .u8 0, .int .u8 0, .int .u8 0, .int .u8 0, .int .u8 0, .int .u8 0, .int .u8 0, .int .u8 0, .int .u8 0, .int .u8 0, .int .u8 0, .int .u8 0, .int .u8 0, .int .u8 0, .int .u8 0, .int .u8 0, .int .u8 0, .int .u8 0, .int .u8 0, .int .u8 0, .int .u8 0, .int .u8 0, .int .u8 0, .int .u8 0, .int .u8 0, .int .u8 0, .int .u8 0, .int .u8 0, .int .u8 0, .int .u8 0, .int .u8 0, .int .u8 0, .int .u8 0, .int .u8 0]⟩ := ⟨by kernel_rfl, by kernel_rfl⟩
theorem ty197 : TdOk Tryz.prog 197 ⟨.ptr 188, 1, 8, .pointer none⟩ := ⟨by kernel_rfl, by kernel_rfl⟩
theorem ty198 : TdOk Tryz.prog 198 ⟨.func, 1, 8, .nilFunc⟩ := ⟨by kernel_rfl, by kernel_rfl⟩
theorem ty199 : TdOk Tryz.prog 199 ⟨.array 32 5, 32, 32, .agg #[.int .u8 0, .int .u8 0, .int .u8 0, .int .u8 0, .int .u8 0, .int .u8 0, .int .u8 0, .int .u8 0, .int .u8 0, .int .u8 0, .int .u8 0, .int .u8 0, .int .u8 0, .int .u8 0, .int .u8 0, .int .u8 0, .int .u8 0, .int .u8 0, .int .u8 0, .int .u8 0, .int .u8 0, .int .u8 0, .int .u8 0, .int .u8 0, .int .u8 0, .int .u8 0, .int .u8 0, .int .u8 0, .int .u8 0, .int .u8 0, .int .u8 0, .int .u8 0]⟩ := ⟨by kernel_rfl, by kernel_rfl⟩
theorem ty200 : TdOk Tryz.prog 200 ⟨.array 64 5, 64, 64, .agg #[.int .u8 0, .int .u8 0, .int .u8 0, .int .u8 0, .int .u8 0, .int .u8 0, .int .u8 0, .int .u8 0, .int .u8 0, .int .u8 0, .int .u8 0, .int .u8 0, .int .u8 0, .int .u8 0, .int .u8 0, .int .u8 0, .int .u8 0, .int .u8 0, .int .u8 0, .int .u8 0, .int .u8 0, .int .u8 0, .int .u8 0, .int .u8 0, .int .u8 0, .int .u8 0, .int .u8 0, .int .u8 0, .int .u8 0, .int .u8 0, .int .u8 0, .int .u8 0, .int .u8 0, .int .u8 0, .int .u8 0, .int .u8 0, .int .u8 0, .int .u8 0, .int .u8 0, .int .u8 0, .int .u8 0, .int .u8 0, .int .u8 0, .int .u8 0, .int .u8 0, .int .u8 0, .int .u8 0, .int .u8 0, .int .u8 0, .int .u8 0, .int .u8 0, .int .u8 0, .int .u8 0, .int .u8 0, .int .u8 0, .int .u8 0, .int .u8 0, .int .u8 0, .int .u8 0, .int .u8 0, .int .u8 0, .int .u8 0, .int .u8 0, .int .u8 0]⟩ := ⟨by kernel_rfl, by kernel_rfl⟩
theorem ty201 : TdOk Tryz.prog 201 ⟨.struct [(0, 17), (1, 17), (2, 17), (3, 9)], 4, 40, .agg #[.pointer none, .pointer none, .pointer none, .string ByteArray.empty]⟩ := ⟨by kernel_rfl, by kernel_rfl⟩
theorem ty202 : TdOk Tryz.prog 202 ⟨.struct [(0, 17), (1, 17), (2, 17), (3, 9)], 4, 40, .agg #[.pointer none, .pointer none, .pointer none, .string ByteArray.empty]⟩ := ⟨by kernel_rfl, by kernel_rfl⟩
theorem ty203 : TdOk Tryz.prog 203 ⟨.array 0 16, 0, 0, .agg #[]⟩ := ⟨by kernel_rfl, by kernel_rfl⟩
theorem ty204 : TdOk Tryz.prog 204 ⟨.struct [(0, 203)], 0, 0, .agg #[]⟩ := ⟨by kernel_rfl, by kernel_rfl⟩
theorem ty205 : TdOk Tryz.prog 205 ⟨.struct [(0, 203)], 0, 0, .agg #[]⟩ := ⟨by kernel_rfl, by kernel_rfl⟩
theorem ty208 : TdOk Tryz.prog 208 ⟨.func, 1, 8, .nilFunc⟩ := ⟨by kernel_rfl, by kernel_rfl⟩
theorem ty211 : TdOk Tryz.prog 211 ⟨.struct [(0, 12), (1, 12), (2, 119), (3, 206), (4, 5), (5, 5), (6, 207), (7, 208), (8, 171), (9, 209), (10, 210)], 11, 48, .agg #[.int .u64 0, .int .u64 0, .int .u32 0, .int .u8 0, .int .u8 0, .int .u8 0, .int .u8 0, .nilFunc, .pointer none, .int .i32 0, .int .i32 0]⟩ := ⟨by kernel_rfl, by kernel_rfl⟩
theorem ty212 : TdOk Tryz.prog 212 ⟨.struct [(0, 12), (1, 12), (2, 119), (3, 206), (4, 5), (5, 5), (6, 207), (7, 208), (8, 171), (9, 209), (10, 210)], 11, 48, .agg #[.int .u64 0, .int .u64 0, .int .u32 0, .int .u8 0, .int .u8 0, .int .u8 0, .int .u8 0, .nilFunc, .pointer none, .int .i32 0, .int .i32 0]⟩ := ⟨by kernel_rfl, by kernel_rfl⟩
def TT : Tab := [(2, ⟨.int .i64, 1, 8, .int .i64 0⟩),
  (3, ⟨.int .i64, 1, 8, .int .i64 0⟩),
  (4, ⟨.bool, 1, 1, .bool false⟩),
  (5, ⟨.int .u8, 1, 1, .int .u8 0⟩),
  (6, ⟨.int .u8, 1, 1, .int .u8 0⟩),
  (12, ⟨.int .u64, 1, 8, .int .u64 0⟩),
  (21, ⟨.int .i32, 1, 4, .int .i32 0⟩),
  (22, ⟨.slice 23, 1, 24, .slice none 0 0⟩),
  (23, ⟨.slice 5, 1, 24, .slice none 0 0⟩),
  (25, ⟨.int .i64, 1, 8, .int .i64 0⟩),
  (45, ⟨.slice 58, 1, 24, .slice none 0 0⟩),
  (63, ⟨.slice 75, 1, 24, .slice none 0 0⟩),
  (66, ⟨.slice 9, 1, 24, .slice none 0 0⟩),
  (74, ⟨.int .u64, 1, 8, .int .u64 0⟩),
  (78, ⟨.slice 3, 1, 24, .slice none 0 0⟩),
  (88, ⟨.slice 95, 1, 24, .slice none 0 0⟩),
  (119, ⟨.int .u32, 1, 4, .int .u32 0⟩),
  (121, ⟨.int .u64, 1, 8, .int .u64 0⟩),
  (126, ⟨.slice 133, 1, 24, .slice none 0 0⟩),
  (173, ⟨.int .i64, 1, 8, .int .i64 0⟩),
  (188, ⟨.int .u64, 1, 8, .int .u64 0⟩),
  (206, ⟨.int .u8, 1, 1, .int .u8 0⟩),
  (207, ⟨.int .u8, 1, 1, .int .u8 0⟩),
  (209, ⟨.int .i32, 1, 4, .int .i32 0⟩),
  (210, ⟨.int .i32, 1, 4, .int .i32 0⟩),
  (1, ⟨.func, 1, 8, .nilFunc⟩),
  (7, ⟨.struct [(0, 2), (1, 3), (2, 4), (3, 6)], 4, 24, .agg #[.int .i64 0, .int .i64 0, .bool false, .int .u8 0]⟩),
  (8, ⟨.struct [(0, 2), (1, 3), (2, 4), (3, 6)], 4, 24, .agg #[.int .i64 0, .int .i64 0, .bool false, .int .u8 0]⟩),
  (9, ⟨.str, 1, 16, .string ByteArray.empty⟩),
  (10, ⟨.str, 1, 16, .string ByteArray.empty⟩),
  (11, ⟨.str, 1, 16, .string ByteArray.empty⟩),
  (13, ⟨.struct [(0, 9), (1, 12)], 2, 24, .agg #[.string ByteArray.empty, .int .u64 0]⟩),
  (14, ⟨.struct [(0, 9), (1, 12)], 2, 24, .agg #[.string ByteArray.empty, .int .u64 0]⟩),
  (15, ⟨.ptr 202, 1, 8, .pointer none⟩),
  (16, ⟨.ptr 205, 1, 8, .pointer none⟩),
  (17, ⟨.ptr 212, 1, 8, .pointer none⟩),
  (18, ⟨.struct [(0, 17)], 1, 8, .agg #[.pointer none]⟩),
  (19, ⟨.struct [(0, 17)], 1, 8, .agg #[.pointer none]⟩),
  (20, ⟨.iface, 1, 16, .nilIface⟩),
  (24, ⟨.ptr 62, 1, 8, .pointer none⟩),
  (27, ⟨.func, 1, 8, .nilFunc⟩),
  (28, ⟨.ptr 65, 1, 8, .pointer none⟩),
  (30, ⟨.func, 1, 8, .nilFunc⟩),
  (32, ⟨.func, 1, 8, .nilFunc⟩),
  (33, ⟨.func, 1, 8, .nilFunc⟩),
  (34, ⟨.func, 1, 8, .nilFunc⟩),
  (36, ⟨.func, 1, 8, .nilFunc⟩),
  (38, ⟨.func, 1, 8, .nilFunc⟩),
  (39, ⟨.func, 1, 8, .nilFunc⟩),
  (40, ⟨.func, 1, 8, .nilFunc⟩),
  (41, ⟨.func, 1, 8, .nilFunc⟩),
  (42, ⟨.func, 1, 8, .nilFunc⟩),
  (43, ⟨.func, 1, 8, .nilFunc⟩),
  (44, ⟨.func, 1, 8, .nilFunc⟩),
  (46, ⟨.func, 1, 8, .nilFunc⟩),
  (47, ⟨.ptr 90, 1, 8, .pointer none⟩),
  (49, ⟨.func, 1, 8, .nilFunc⟩),
  (50, ⟨.func, 1, 8, .nilFunc⟩),
  (51, ⟨.func, 1, 8, .nilFunc⟩),
  (52, ⟨.ptr 55, 1, 8, .pointer none⟩),
  (53, ⟨.ptr 128, 1, 8, .pointer none⟩),
  (54, ⟨.struct [(0, 24), (1, 47), (2, 28), (3, 53)], 4, 32, .agg #[.pointer none, .pointer none, .pointer none, .pointer none]⟩),
  (55, ⟨.struct [(0, 24), (1, 47), (2, 28), (3, 53)], 4, 32, .agg #[.pointer none, .pointer none, .pointer none, .pointer none]⟩),
  (56, ⟨.func, 1, 8, .nilFunc⟩),
  (57, ⟨.struct [(0, 3), (1, 3), (2, 3), (3, 23), (4, 5)], 5, 56, .agg #[.int .i64 0, .int .i64 0, .int .i64 0, .slice none 0 0, .int .u8 0]⟩),
  (58, ⟨.struct [(0, 3), (1, 3), (2, 3), (3, 23), (4, 5)], 5, 56, .agg #[.int .i64 0, .int .i64 0, .int .i64 0, .slice none 0 0, .int .u8 0]⟩),
  (59, ⟨.func, 1, 8, .nilFunc⟩),
  (60, ⟨.map 9 86, 1, 8, .map none⟩),
  (61, ⟨.struct [(0, 3), (1, 3), (2, 60)], 3, 24, .agg #[.int .i64 0, .int .i64 0, .map none]⟩),
  (62, ⟨.struct [(0, 3), (1, 3), (2, 60)], 3, 24, .agg #[.int .i64 0, .int .i64 0, .map none]⟩),
  (64, ⟨.struct [(0, 24), (1, 9), (2, 63), (3, 3)], 4, 56, .agg #[.pointer none, .string ByteArray.empty, .slice none 0 0, .int .i64 0]⟩),
  (65, ⟨.struct [(0, 24), (1, 9), (2, 63), (3, 3)], 4, 56, .agg #[.pointer none, .string ByteArray.empty, .slice none 0 0, .int .i64 0]⟩),
  (67, ⟨.func, 1, 8, .nilFunc⟩),
  (69, ⟨.func, 1, 8, .nilFunc⟩),
  (70, ⟨.func, 1, 8, .nilFunc⟩),
  (71, ⟨.func, 1, 8, .nilFunc⟩),
  (72, ⟨.func, 1, 8, .nilFunc⟩),
  (73, ⟨.func, 1, 8, .nilFunc⟩),
  (75, ⟨.ptr 80, 1, 8, .pointer none⟩),
  (76, ⟨.func, 1, 8, .nilFunc⟩),
  (77, ⟨.func, 1, 8, .nilFunc⟩),
  (79, ⟨.struct [(0, 3), (1, 22), (2, 78), (3, 4)], 4, 64, .agg #[.int .i64 0, .slice none 0 0, .slice none 0 0, .bool false]⟩),
  (80, ⟨.struct [(0, 3), (1, 22), (2, 78), (3, 4)], 4, 64, .agg #[.int .i64 0, .slice none 0 0, .slice none 0 0, .bool false]⟩),
  (81, ⟨.func, 1, 8, .nilFunc⟩),
  (82, ⟨.func, 1, 8, .nilFunc⟩),
  (83, ⟨.func, 1, 8, .nilFunc⟩),
  (84, ⟨.func, 1, 8, .nilFunc⟩),
  (85, ⟨.struct [(0, 23), (1, 3)], 2, 32, .agg #[.slice none 0 0, .int .i64 0]⟩),
  (86, ⟨.struct [(0, 23), (1, 3)], 2, 32, .agg #[.slice none 0 0, .int .i64 0]⟩),
  (87, ⟨.func, 1, 8, .nilFunc⟩),
  (89, ⟨.struct [(0, 3), (1, 88)], 2, 32, .agg #[.int .i64 0, .slice none 0 0]⟩),
  (90, ⟨.struct [(0, 3), (1, 88)], 2, 32, .agg #[.int .i64 0, .slice none 0 0]⟩),
  (91, ⟨.func, 1, 8, .nilFunc⟩),
  (93, ⟨.func, 1, 8, .nilFunc⟩),
  (94, ⟨.struct [(0, 9), (1, 23), (2, 3)], 3, 48, .agg #[.string ByteArray.empty, .slice none 0 0, .int .i64 0]⟩),
  (95, ⟨.struct [(0, 9), (1, 23), (2, 3)], 3, 48, .agg #[.string ByteArray.empty, .slice none 0 0, .int .i64 0]⟩),
  (97, ⟨.func, 1, 8, .nilFunc⟩),
  (98, ⟨.func, 1, 8, .nilFunc⟩),
  (99, ⟨.func, 1, 8, .nilFunc⟩),
  (101, ⟨.func, 1, 8, .nilFunc⟩),
  (102, ⟨.func, 1, 8, .nilFunc⟩),
  (103, ⟨.func, 1, 8, .nilFunc⟩),
  (104, ⟨.func, 1, 8, .nilFunc⟩),
  (105, ⟨.func, 1, 8, .nilFunc⟩),
  (106, ⟨.func, 1, 8, .nilFunc⟩),
  (107, ⟨.func, 1, 8, .nilFunc⟩),
  (108, ⟨.func, 1, 8, .nilFunc⟩),
  (109, ⟨.func, 1, 8, .nilFunc⟩),
  (110, ⟨.func, 1, 8, .nilFunc⟩),
  (112, ⟨.func, 1, 8, .nilFunc⟩),
  (113, ⟨.func, 1, 8, .nilFunc⟩),
  (115, ⟨.func, 1, 8, .nilFunc⟩),
  (117, ⟨.func, 1, 8, .nilFunc⟩),
  (118, ⟨.func, 1, 8, .nilFunc⟩),
  (120, ⟨.func, 1, 8, .nilFunc⟩),
  (122, ⟨.func, 1, 8, .nilFunc⟩),
  (123, ⟨.func, 1, 8, .nilFunc⟩),
  (124, ⟨.func, 1, 8, .nilFunc⟩),
  (125, ⟨.func, 1, 8, .nilFunc⟩),
  (127, ⟨.struct [(0, 47), (1, 9), (2, 126), (3, 3), (4, 78)], 5, 80, .agg #[.pointer none, .string ByteArray.empty, .slice none 0 0, .int .i64 0, .slice none 0 0]⟩),
  (128, ⟨.struct [(0, 47), (1, 9), (2, 126), (3, 3), (4, 78)], 5, 80, .agg #[.pointer none, .string ByteArray.empty, .slice none 0 0, .int .i64 0, .slice none 0 0]⟩),
  (129, ⟨.func, 1, 8, .nilFunc⟩),
  (130, ⟨.func, 1, 8, .nilFunc⟩),
  (131, ⟨.func, 1, 8, .nilFunc⟩),
  (132, ⟨.struct [(0, 3), (1, 22)], 2, 32, .agg #[.int .i64 0, .slice none 0 0]⟩),
  (133, ⟨.struct [(0, 3), (1, 22)], 2, 32, .agg #[.int .i64 0, .slice none 0 0]⟩),
  (135, ⟨.func, 1, 8, .nilFunc⟩),
  (136, ⟨.func, 1, 8, .nilFunc⟩),
  (137, ⟨.func, 1, 8, .nilFunc⟩),
  (138, ⟨.func, 1, 8, .nilFunc⟩),
  (140, ⟨.func, 1, 8, .nilFunc⟩),
  (141, ⟨.func, 1, 8, .nilFunc⟩),
  (142, ⟨.array 16 119, 16, 64, .agg #[.int .u32 0, .int .u32 0, .int .u32 0, .int .u32 0, .int .u32 0, .int .u32 0, .int .u32 0, .int .u32 0, .int .u32 0, .int .u32 0, .int .u32 0, .int .u32 0, .int .u32 0, .int .u32 0, .int .u32 0, .int .u32 0]⟩),
  (143, ⟨.func, 1, 8, .nilFunc⟩),
  (145, ⟨.func, 1, 8, .nilFunc⟩),
  (146, ⟨.func, 1, 8, .nilFunc⟩),
  (147, ⟨.ptr 149, 1, 8, .pointer none⟩),
  (148, ⟨.struct [(0, 147), (1, 23)], 2, 32, .agg #[.pointer none, .slice none 0 0]⟩),
  (149, ⟨.struct [(0, 147), (1, 23)], 2, 32, .agg #[.pointer none, .slice none 0 0]⟩),
  (150, ⟨.iface, 1, 16, .nilIface⟩),
  (151, ⟨.iface, 1, 16, .nilIface⟩),
  (153, ⟨.func, 1, 8, .nilFunc⟩),
  (154, ⟨.func, 1, 8, .nilFunc⟩),
  (156, ⟨.func, 1, 8, .nilFunc⟩),
  (158, ⟨.func, 1, 8, .nilFunc⟩),
  (159, ⟨.func, 1, 8, .nilFunc⟩),
  (160, ⟨.func, 1, 8, .nilFunc⟩),
  (161, ⟨.func, 1, 8, .nilFunc⟩),
  (162, ⟨.func, 1, 8, .nilFunc⟩),
  (164, ⟨.func, 1, 8, .nilFunc⟩),
  (165, ⟨.func, 1, 8, .nilFunc⟩),
  (166, ⟨.func, 1, 8, .nilFunc⟩),
  (168, ⟨.func, 1, 8, .nilFunc⟩),
  (170, ⟨.func, 1, 8, .nilFunc⟩),
  (171, ⟨.ptr 5, 1, 8, .pointer none⟩),
  (172, ⟨.func, 1, 8, .nilFunc⟩),
  (175, ⟨.func, 1, 8, .nilFunc⟩),
  (176, ⟨.func, 1, 8, .nilFunc⟩),
  (177, ⟨.func, 1, 8, .nilFunc⟩),
  (178, ⟨.func, 1, 8, .nilFunc⟩),
  (179, ⟨.func, 1, 8, .nilFunc⟩),
  (180, ⟨.func, 1, 8, .nilFunc⟩),
  (181, ⟨.array 24 5, 24, 24, .agg #[.int .u8 0, .int .u8 0, .int .u8 0, .int .u8 0, .int .u8 0, .int .u8 0, .int .u8 0, .int .u8 0, .int .u8 0, .int .u8 0, .int .u8 0, .int .u8 0, .int .u8 0, .int .u8 0, .int .u8 0, .int .u8 0, .int .u8 0, .int .u8 0, .int .u8 0, .int .u8 0, .int .u8 0, .int .u8 0, .int .u8 0, .int .u8 0]⟩),
  (182, ⟨.func, 1, 8, .nilFunc⟩),
  (184, ⟨.func, 1, 8, .nilFunc⟩),
  (186, ⟨.func, 1, 8, .nilFunc⟩),
  (187, ⟨.func, 1, 8, .nilFunc⟩),
  (189, ⟨.func, 1, 8, .nilFunc⟩),
  (190, ⟨.func, 1, 8, .nilFunc⟩),
  (191, ⟨.func, 1, 8, .nilFunc⟩),
  (192, ⟨.ptr 3, 1, 8, .pointer none⟩),
  (193, ⟨.func, 1, 8, .nilFunc⟩),
  (194, ⟨.func, 1, 8, .nilFunc⟩),
  (195, ⟨.array 20 74, 20, 160, .agg #[.int .u64 0, .int .u64 0, .int .u64 0, .int .u64 0, .int .u64 0, .int .u64 0, .int .u64 0, .int .u64 0, .int .u64 0, .int .u64 0, .int .u64 0, .int .u64 0, .int .u64 0, .int .u64 0, .int .u64 0, .int .u64 0, .int .u64 0, .int .u64 0, .int .u64 0, .int .u64 0]⟩),
  (196, ⟨.array 65 5, 65, 65, .agg #[.int .u8 0, .int .u8 0, .int .u8 0, .int .u8 0, .int .u8 0, .int .u8 0, .int .u8 0, .int .u8 0, .int .u8 0, .int .u8 0, .int .u8 0, .int .u8 0, .int .u8 0, .int .u8 0, .int .u8 0, .int .u8 0, .int .u8 0, .int .u8 0, .int .u8 0, .int .u8 0, .int .u8 0, .int .u8 0, .int .u8 0, .int .u8 0, .int .u8 0, .int .u8 0, .int .u8 0, .int .u8 0, .int .u8 0, .int .u8 0, .int .u8 0, .int .u8 0, .int .u8 0, .int .u8 0, .int .u8 0, .int .u8 0, .int .u8 0, .int .u8 0, .int .u8 0, .int .u8 0, .int .u8 0, .int .u8 0, .int .u8 0, .int .u8 0, .int .u8 0, .int .u8 0, .int .u8 0, .int .u8 0, .int .u8 0, .int .u8 0, .int .u8 0, .int .u8 0, .int .u8 0, .int .u8 0, .int .u8 0, .int .u8 0, .int .u8 0, .int .u8 0, .int .u8 0, .int .u8 0, .int .u8 0, .int .u8 0, .int .u8 0, .int .u8 0, .int .u8 0]⟩),
  (197, ⟨.ptr 188, 1, 8, .pointer none⟩),
  (198, ⟨.func, 1, 8, .nilFunc⟩),
  (199, ⟨.array 32 5, 32, 32, .agg #[.int .u8 0, .int .u8 0, .int .u8 0, .int .u8 0, .int .u8 0, .int .u8 0, .int .u8 0, .int .u8 0, .int .u8 0, .int .u8 0, .int .u8 0, .int .u8 0, .int .u8 0, .int .u8 0, .int .u8 0, .int .u8 0, .int .u8 0, .int .u8 0, .int .u8 0, .int .u8 0, .int .u8 0, .int .u8 0, .int .u8 0, .int .u8 0, .int .u8 0, .int .u8 0, .int .u8 0, .int .u8 0, .int .u8 0, .int .u8 0, .int .u8 0, .int .u8 0]⟩),
  (200, ⟨.array 64 5, 64, 64, .agg #[.int .u8 0, .int .u8 0, .int .u8 0, .int .u8 0, .int .u8 0, .int .u8 0, .int .u8 0, .int .u8 0, .int .u8 0, .int .u8 0, .int .u8 0, .int .u8 0, .int .u8 0, .int .u8 0, .int .u8 0, .int .u8 0, .int .u8 0, .int .u8 0, .int .u8 0, .int .u8 0, .int .u8 0, .int .u8 0, .int .u8 0, .int .u8 0, .int .u8 0, .int .u8 0, .int .u8 0, .int .u8 0, .int .u8 0, .int .u8 0, .int .u8 0, .int .u8 0, .int .u8 0, .int .u8 0, .int .u8 0, .int .u8 0, .int .u8 0, .int .u8 0, .int .u8 0, .int .u8 0, .int .u8 0, .int .u8 0, .int .u8 0, .int .u8 0, .int .u8 0, .int .u8 0, .int .u8 0, .int .u8 0, .int .u8 0, .int .u8 0, .int .u8 0, .int .u8 0, .int .u8 0, .int .u8 0, .int .u8 0, .int .u8 0, .int .u8 0, .int .u8 0, .int .u8 0, .int .u8 0, .int .u8 0, .int .u8 0, .int .u8 0, .int .u8 0]⟩),
  (201, ⟨.struct [(0, 17), (1, 17), (2, 17), (3, 9)], 4, 40, .agg #[.pointer none, .pointer none, .pointer none, .string ByteArray.empty]⟩),
  (202, ⟨.struct [(0, 17), (1, 17), (2, 17), (3, 9)], 4, 40, .agg #[.pointer none, .pointer none, .pointer none, .string ByteArray.empty]⟩),
  (203, ⟨.array 0 16, 0, 0, .agg #[]⟩),
  (204, ⟨.struct [(0, 203)], 0, 0, .agg #[]⟩),
  (205, ⟨.struct [(0, 203)], 0, 0, .agg #[]⟩),
  (208, ⟨.func, 1, 8, .nilFunc⟩),
  (211, ⟨.struct [(0, 12), (1, 12), (2, 119), (3, 206), (4, 5), (5, 5), (6, 207), (7, 208), (8, 171), (9, 209), (10, 210)], 11, 48, .agg #[.int .u64 0, .int .u64 0, .int .u32 0, .int .u8 0, .int .u8 0, .int .u8 0, .int .u8 0, .nilFunc, .pointer none, .int .i32 0, .int .i32 0]⟩),
  (212, ⟨.struct [(0, 12), (1, 12), (2, 119), (3, 206), (4, 5), (5, 5), (6, 207), (7, 208), (8, 171), (9, 209), (10, 210)], 11, 48, .agg #[.int .u64 0, .int .u64 0, .int .u32 0, .int .u8 0, .int .u8 0, .int .u8 0, .int .u8 0, .nilFunc, .pointer none, .int .i32 0, .int .i32 0]⟩)]
theorem ttOk : TabOk Tryz.prog TT := tabOk_cons ty2 <| tabOk_cons ty3 <| tabOk_cons ty4 <| tabOk_cons ty5 <| tabOk_cons ty6 <| tabOk_cons ty12 <| tabOk_cons ty21 <| tabOk_cons ty22 <| tabOk_cons ty23 <| tabOk_cons ty25 <| tabOk_cons ty45 <| tabOk_cons ty63 <| tabOk_cons ty66 <| tabOk_cons ty74 <| tabOk_cons ty78 <| tabOk_cons ty88 <| tabOk_cons ty119 <| tabOk_cons ty121 <| tabOk_cons ty126 <| tabOk_cons ty173 <| tabOk_cons ty188 <| tabOk_cons ty206 <| tabOk_cons ty207 <| tabOk_cons ty209 <| tabOk_cons ty210 <| tabOk_cons ty1 <| tabOk_cons ty7 <| tabOk_cons ty8 <| tabOk_cons ty9 <| tabOk_cons ty10 <| tabOk_cons ty11 <| tabOk_cons ty13 <| tabOk_cons ty14 <| tabOk_cons ty15 <| tabOk_cons ty16 <| tabOk_cons ty17 <| tabOk_cons ty18 <| tabOk_cons ty19 <| tabOk_cons ty20 <| tabOk_cons ty24 <| tabOk_cons ty27 <| tabOk_cons ty28 <| tabOk_cons ty30 <| tabOk_cons ty32 <| tabOk_cons ty33 <| tabOk_cons ty34 <| tabOk_cons ty36 <| tabOk_cons ty38 <| tabOk_cons ty39 <| tabOk_cons ty40 <| tabOk_cons ty41 <| tabOk_cons ty42 <| tabOk_cons ty43 <| tabOk_cons ty44 <| tabOk_cons ty46 <| tabOk_cons ty47 <| tabOk_cons ty49 <| tabOk_cons ty50 <| tabOk_cons ty51 <| tabOk_cons ty52 <| tabOk_cons ty53 <| tabOk_cons ty54 <| tabOk_cons ty55 <| tabOk_cons ty56 <| tabOk_cons ty57 <| tabOk_cons ty58 <| tabOk_cons ty59 <| tabOk_cons ty60 <| tabOk_cons ty61 <| tabOk_cons ty62 <| tabOk_cons ty64 <| tabOk_cons ty65 <| tabOk_cons ty67 <| tabOk_cons ty69 <| tabOk_cons ty70 <| tabOk_cons ty71 <| tabOk_cons ty72 <| tabOk_cons ty73 <| tabOk_cons ty75 <| tabOk_cons ty76 <| tabOk_cons ty77 <| tabOk_cons ty79 <| tabOk_cons ty80 <| tabOk_cons ty81 <| tabOk_cons ty82 <| tabOk_cons ty83 <| tabOk_cons ty84 <| tabOk_cons ty85 <| tabOk_cons ty86 <| tabOk_cons ty87 <| tabOk_cons ty89 <| tabOk_cons ty90 <| tabOk_cons ty91 <| tabOk_cons ty93 <| tabOk_cons ty94 <| tabOk_cons ty95 <| tabOk_cons ty97 <| tabOk_cons ty98 <| tabOk_cons ty99 <| tabOk_cons ty101 <| tabOk_cons ty102 <| tabOk_cons ty103 <| tabOk_cons ty104 <| tabOk_cons ty105 <| tabOk_cons ty106 <| tabOk_cons ty107 <| tabOk_cons ty108 <| tabOk_cons ty109 <| tabOk_cons ty110 <| tabOk_cons ty112 <| tabOk_cons ty113 <| tabOk_cons ty115 <| tabOk_cons ty117 <| tabOk_cons ty118 <| tabOk_cons ty120 <| tabOk_cons ty122 <| tabOk_cons ty123 <| tabOk_cons ty124 <| tabOk_cons ty125 <| tabOk_cons ty127 <| tabOk_cons ty128 <| tabOk_cons ty129 <| tabOk_cons ty130 <| tabOk_cons ty131 <| tabOk_cons ty132 <| tabOk_cons ty133 <| tabOk_cons ty135 <| tabOk_cons ty136 <| tabOk_cons ty137 <| tabOk_cons ty138 <| tabOk_cons ty140 <| tabOk_cons ty141 <| tabOk_cons ty142 <| tabOk_cons ty143 <| tabOk_cons ty145 <| tabOk_cons ty146 <| tabOk_cons ty147 <| tabOk_cons ty148 <| tabOk_cons ty149 <| tabOk_cons ty150 <| tabOk_cons ty151 <| tabOk_cons ty153 <| tabOk_cons ty154 <| tabOk_cons ty156 <| tabOk_cons ty158 <| tabOk_cons ty159 <| tabOk_cons ty160 <| tabOk_cons ty161 <| tabOk_cons ty162 <| tabOk_cons ty164 <| tabOk_cons ty165 <| tabOk_cons ty166 <| tabOk_cons ty168 <| tabOk_cons ty170 <| tabOk_cons ty171 <| tabOk_cons ty172 <| tabOk_cons ty175 <| tabOk_cons ty176 <| tabOk_cons ty177 <| tabOk_cons ty178 <| tabOk_cons ty179 <| tabOk_cons ty180 <| tabOk_cons ty181 <| tabOk_cons ty182 <| tabOk_cons ty184 <| tabOk_cons ty186 <| tabOk_cons ty187 <| tabOk_cons ty189 <| tabOk_cons ty190 <| tabOk_cons ty191 <| tabOk_cons ty192 <| tabOk_cons ty193 <| tabOk_cons ty194 <| tabOk_cons ty195 <| tabOk_cons ty196 <| tabOk_cons ty197 <| tabOk_cons ty198 <| tabOk_cons ty199 <| tabOk_cons ty200 <| tabOk_cons ty201 <| tabOk_cons ty202 <| tabOk_cons ty203 <| tabOk_cons ty204 <| tabOk_cons ty205 <| tabOk_cons ty208 <| tabOk_cons ty211 <| tabOk_cons ty212 <| tabOk_nil
theorem tl2 : look TT 2 = some ⟨.int .i64, 1, 8, .int .i64 0⟩ := rfl
theorem tl3 : look TT 3 = some ⟨.int .i64, 1, 8, .int .i64 0⟩ := rfl
theorem tl4 : look TT 4 = some ⟨.bool, 1, 1, .bool false⟩ := rfl
theorem tl5 : look TT 5 = some ⟨.int .u8, 1, 1, .int .u8 0⟩ := rfl
theorem tl6 : look TT 6 = some ⟨.int .u8, 1, 1, .int .u8 0⟩ := rfl
theorem tl12 : look TT 12 = some ⟨.int .u64, 1, 8, .int .u64 0⟩ := rfl
theorem tl21 : look TT 21 = some ⟨.int .i32, 1, 4, .int .i32 0⟩ := rfl
theorem tl22 : look TT 22 = some ⟨.slice 23, 1, 24, .slice none 0 0⟩ := rfl
theorem tl23 : look TT 23 = some ⟨.slice 5, 1, 24, .slice none 0 0⟩ := rfl
theorem tl25 : look TT 25 = some ⟨.int .i64, 1, 8, .int .i64 0⟩ := rfl
theorem tl45 : look TT 45 = some ⟨.slice 58, 1, 24, .slice none 0 0⟩ := rfl
theorem tl63 : look TT 63 = some ⟨.slice 75, 1, 24, .slice none 0 0⟩ := rfl
theorem tl66 : look TT 66 = some ⟨.slice 9, 1, 24, .slice none 0 0⟩ := rfl
theorem tl74 : look TT 74 = some ⟨.int .u64, 1, 8, .int .u64 0⟩ := rfl
theorem tl78 : look TT 78 = some ⟨.slice 3, 1, 24, .slice none 0 0⟩ := rfl
theorem tl88 : look TT 88 = some ⟨.slice 95, 1, 24, .slice none 0 0⟩ := rfl
theorem tl119 : look TT 119 = some ⟨.int .u32, 1, 4, .int .u32 0⟩ := rfl
theorem tl121 : look TT 121 = some ⟨.int .u64, 1, 8, .int .u64 0⟩ := rfl
theorem tl126 : look TT 126 = some ⟨.slice 133, 1, 24, .slice none 0 0⟩ := rfl
theorem tl173 : look TT 173 = some ⟨.int .i64, 1, 8, .int .i64 0⟩ := rfl
theorem tl188 : look TT 188 = some ⟨.int .u64, 1, 8, .int .u64 0⟩ := rfl
theorem tl206 : look TT 206 = some ⟨.int .u8, 1, 1, .int .u8 0⟩ := rfl
theorem tl207 : look TT 207 = some ⟨.int .u8, 1, 1, .int .u8 0⟩ := rfl
theorem tl209 : look TT 209 = some ⟨.int .i32, 1, 4, .int .i32 0⟩ := rfl
theorem tl210 : look TT 210 = some ⟨.int .i32, 1, 4, .int .i32 0⟩ := rfl
theorem tl1 : look TT 1 = some ⟨.func, 1, 8, .nilFunc⟩ := rfl
theorem tl7 : look TT 7 = some ⟨.struct [(0, 2), (1, 3), (2, 4), (3, 6)], 4, 24, .agg #[.int .i64 0, .int .i64 0, .bool false, .int .u8 0]⟩ := rfl
theorem tl8 : look TT 8 = some ⟨.struct [(0, 2), (1, 3), (2, 4), (3, 6)], 4, 24, .agg #[.int .i64 0, .int .i64 0, .bool false, .int .u8 0]⟩ := rfl
theorem tl9 : look TT 9 = some ⟨.str, 1, 16, .string ByteArray.empty⟩ := rfl
theorem tl10 : look TT 10 = some ⟨.str, 1, 16, .string ByteArray.empty⟩ := rfl
theorem tl11 : look TT 11 = some ⟨.str, 1, 16, .string ByteArray.empty⟩ := rfl
theorem tl13 : look TT 13 = some ⟨.struct [(0, 9), (1, 12)], 2, 24, .agg #[.string ByteArray.empty, .int .u64 0]⟩ := rfl
theorem tl14 : look TT 14 = some ⟨.struct [(0, 9), (1, 12)], 2, 24, .agg #[.string ByteArray.empty, .int .u64 0]⟩ := rfl
theorem tl15 : look TT 15 = some ⟨.ptr 202, 1, 8, .pointer none⟩ := rfl
theorem tl16 : look TT 16 = some ⟨.ptr 205, 1, 8, .pointer none⟩ := rfl
theorem tl17 : look TT 17 = some ⟨.ptr 212, 1, 8, .pointer none⟩ := rfl
theorem tl18 : look TT 18 = some ⟨.struct [(0, 17)], 1, 8, .agg #[.pointer none]⟩ := rfl
theorem tl19 : look TT 19 = some ⟨.struct [(0, 17)], 1, 8, .agg #[.pointer none]⟩ := rfl
theorem tl20 : look TT 20 = some ⟨.iface, 1, 16, .nilIface⟩ := rfl
theorem tl24 : look TT 24 = some ⟨.ptr 62, 1, 8, .pointer none⟩ := rfl
theorem tl27 : look TT 27 = some ⟨.func, 1, 8, .nilFunc⟩ := rfl
theorem tl28 : look TT 28 = some ⟨.ptr 65, 1, 8, .pointer none⟩ := rfl
theorem tl30 : look TT 30 = some ⟨.func, 1, 8, .nilFunc⟩ := rfl
theorem tl32 : look TT 32 = some ⟨.func, 1, 8, .nilFunc⟩ := rfl
theorem tl33 : look TT 33 = some ⟨.func, 1, 8, .nilFunc⟩ := rfl
theorem tl34 : look TT 34 = some ⟨.func, 1, 8, .nilFunc⟩ := rfl
theorem tl36 : look TT 36 = some ⟨.func, 1, 8, .nilFunc⟩ := rfl
theorem tl38 : look TT 38 = some ⟨.func, 1, 8, .nilFunc⟩ := rfl
theorem tl39 : look TT 39 = some ⟨.func, 1, 8, .nilFunc⟩ := rfl
theorem tl40 : look TT 40 = some ⟨.func, 1, 8, .nilFunc⟩ := rfl
theorem tl41 : look TT 41 = some ⟨.func, 1, 8, .nilFunc⟩ := rfl
theorem tl42 : look TT 42 = some ⟨.func, 1, 8, .nilFunc⟩ := rfl
theorem tl43 : look TT 43 = some ⟨.func, 1, 8, .nilFunc⟩ := rfl
theorem tl44 : look TT 44 = some ⟨.func, 1, 8, .nilFunc⟩ := rfl
theorem tl46 : look TT 46 = some ⟨.func, 1, 8, .nilFunc⟩ := rfl
theorem tl47 : look TT 47 = some ⟨.ptr 90, 1, 8, .pointer none⟩ := rfl
theorem tl49 : look TT 49 = some ⟨.func, 1, 8, .nilFunc⟩ := rfl
theorem tl50 : look TT 50 = some ⟨.func, 1, 8, .nilFunc⟩ := rfl
theorem tl51 : look TT 51 = some ⟨.func, 1, 8, .nilFunc⟩ := rfl
theorem tl52 : look TT 52 = some ⟨.ptr 55, 1, 8, .pointer none⟩ := rfl
theorem tl53 : look TT 53 = some ⟨.ptr 128, 1, 8, .pointer none⟩ := rfl
theorem tl54 : look TT 54 = some ⟨.struct [(0, 24), (1, 47), (2, 28), (3, 53)], 4, 32, .agg #[.pointer none, .pointer none, .pointer none, .pointer none]⟩ := rfl
theorem tl55 : look TT 55 = some ⟨.struct [(0, 24), (1, 47), (2, 28), (3, 53)], 4, 32, .agg #[.pointer none, .pointer none, .pointer none, .pointer none]⟩ := rfl
theorem tl56 : look TT 56 = some ⟨.func, 1, 8, .nilFunc⟩ := rfl
theorem tl57 : look TT 57 = some ⟨.struct [(0, 3), (1, 3), (2, 3), (3, 23), (4, 5)], 5, 56, .agg #[.int .i64 0, .int .i64 0, .int .i64 0, .slice none 0 0, .int .u8 0]⟩ := rfl
theorem tl58 : look TT 58 = some ⟨.struct [(0, 3), (1, 3), (2, 3), (3, 23), (4, 5)], 5, 56, .agg #[.int .i64 0, .int .i64 0, .int .i64 0, .slice none 0 0, .int .u8 0]⟩ := rfl
theorem tl59 : look TT 59 = some ⟨.func, 1, 8, .nilFunc⟩ := rfl
theorem tl60 : look TT 60 = some ⟨.map 9 86, 1, 8, .map none⟩ := rfl
theorem tl61 : look TT 61 = some ⟨.struct [(0, 3), (1, 3), (2, 60)], 3, 24, .agg #[.int .i64 0, .int .i64 0, .map none]⟩ := rfl
theorem tl62 : look TT 62 = some ⟨.struct [(0, 3), (1, 3), (2, 60)], 3, 24, .agg #[.int .i64 0, .int .i64 0, .map none]⟩ := rfl
theorem tl64 : look TT 64 = some ⟨.struct [(0, 24), (1, 9), (2, 63), (3, 3)], 4, 56, .agg #[.pointer none, .string ByteArray.empty, .slice none 0 0, .int .i64 0]⟩ := rfl
theorem tl65 : look TT 65 = some ⟨.struct [(0, 24), (1, 9), (2, 63), (3, 3)], 4, 56, .agg #[.pointer none, .string ByteArray.empty, .slice none 0 0, .int .i64 0]⟩ := rfl
theorem tl67 : look TT 67 = some ⟨.func, 1, 8, .nilFunc⟩ := rfl
theorem tl69 : look TT 69 = some ⟨.func, 1, 8, .nilFunc⟩ := rfl
theorem tl70 : look TT 70 = some ⟨.func, 1, 8, .nilFunc⟩ := rfl
theorem tl71 : look TT 71 = some ⟨.func, 1, 8, .nilFunc⟩ := rfl
theorem tl72 : look TT 72 = some ⟨.func, 1, 8, .nilFunc⟩ := rfl
theorem tl73 : look TT 73 = some ⟨.func, 1, 8, .nilFunc⟩ := rfl
theorem tl75 : look TT 75 = some ⟨.ptr 80, 1, 8, .pointer none⟩ := rfl
theorem tl76 : look TT 76 = some ⟨.func, 1, 8, .nilFunc⟩ := rfl
theorem tl77 : look TT 77 = some ⟨.func, 1, 8, .nilFunc⟩ := rfl
theorem tl79 : look TT 79 = some ⟨.struct [(0, 3), (1, 22), (2, 78), (3, 4)], 4, 64, .agg #[.int .i64 0, .slice none 0 0, .slice none 0 0, .bool false]⟩ := rfl
theorem tl80 : look TT 80 = some ⟨.struct [(0, 3), (1, 22), (2, 78), (3, 4)], 4, 64, .agg #[.int .i64 0, .slice none 0 0, .slice none 0 0, .bool false]⟩ := rfl
theorem tl81 : look TT 81 = some ⟨.func, 1, 8, .nilFunc⟩ := rfl
theorem tl82 : look TT 82 = some ⟨.func, 1, 8, .nilFunc⟩ := rfl
theorem tl83 : look TT 83 = some ⟨.func, 1, 8, .nilFunc⟩ := rfl
theorem tl84 : look TT 84 = some ⟨.func, 1, 8, .nilFunc⟩ := rfl
theorem tl85 : look TT 85 = some ⟨.struct [(0, 23), (1, 3)], 2, 32, .agg #[.slice none 0 0, .int .i64 0]⟩ := rfl
theorem tl86 : look TT 86 = some ⟨.struct [(0, 23), (1, 3)], 2, 32, .agg #[.slice none 0 0, .int .i64 0]⟩ := rfl
theorem tl87 : look TT 87 = some ⟨.func, 1, 8, .nilFunc⟩ := rfl
theorem tl89 : look TT 89 = some ⟨.struct [(0, 3), (1, 88)], 2, 32, .agg #[.int .i64 0, .slice none 0 0]⟩ := rfl
theorem tl90 : look TT 90 = some ⟨.struct [(0, 3), (1, 88)], 2, 32, .agg #[.int .i64 0, .slice none 0 0]⟩ := rfl
theorem tl91 : look TT 91 = some ⟨.func, 1, 8, .nilFunc⟩ := rfl
theorem tl93 : look TT 93 = some ⟨.func, 1, 8, .nilFunc⟩ := rfl
theorem tl94 : look TT 94 = some ⟨.struct [(0, 9), (1, 23), (2, 3)], 3, 48, .agg #[.string ByteArray.empty, .slice none 0 0, .int .i64 0]⟩ := rfl
theorem tl95 : look TT 95 = some ⟨.struct [(0, 9), (1, 23), (2, 3)], 3, 48, .agg #[.string ByteArray.empty, .slice none 0 0, .int .i64 0]⟩ := rfl
theorem tl97 : look TT 97 = some ⟨.func, 1, 8, .nilFunc⟩ := rfl
theorem tl98 : look TT 98 = some ⟨.func, 1, 8, .nilFunc⟩ := rfl
theorem tl99 : look TT 99 = some ⟨.func, 1, 8, .nilFunc⟩ := rfl
theorem tl101 : look TT 101 = some ⟨.func, 1, 8, .nilFunc⟩ := rfl
theorem tl102 : look TT 102 = some ⟨.func, 1, 8, .nilFunc⟩ := rfl
theorem tl103 : look TT 103 = some ⟨.func, 1, 8, .nilFunc⟩ := rfl
theorem tl104 : look TT 104 = some ⟨.func, 1, 8, .nilFunc⟩ := rfl
theorem tl105 : look TT 105 = some ⟨.func, 1, 8, .nilFunc⟩ := rfl
theorem tl106 : look TT 106 = some ⟨.func, 1, 8, .nilFunc⟩ := rfl
theorem tl107 : look TT 107 = some ⟨.func, 1, 8, .nilFunc⟩ := rfl
theorem tl108 : look TT 108 = some ⟨.func, 1, 8, .nilFunc⟩ := rfl
theorem tl109 : look TT 109 = some ⟨.func, 1, 8, .nilFunc⟩ := rfl
theorem tl110 : look TT 110 = some ⟨.func, 1, 8, .nilFunc⟩ := rfl
theorem tl112 : look TT 112 = some ⟨.func, 1, 8, .nilFunc⟩ := rfl
theorem tl113 : look TT 113 = some ⟨.func, 1, 8, .nilFunc⟩ := rfl
theorem tl115 : look TT 115 = some ⟨.func, 1, 8, .nilFunc⟩ := rfl
theorem tl117 : look TT 117 = some ⟨.func, 1, 8, .nilFunc⟩ := rfl
theorem tl118 : look TT 118 = some ⟨.func, 1, 8, .nilFunc⟩ := rfl
theorem tl120 : look TT 120 = some ⟨.func, 1, 8, .nilFunc⟩ := rfl
theorem tl122 : look TT 122 = some ⟨.func, 1, 8, .nilFunc⟩ := rfl
theorem tl123 : look TT 123 = some ⟨.func, 1, 8, .nilFunc⟩ := rfl
theorem tl124 : look TT 124 = some ⟨.func, 1, 8, .nilFunc⟩ := rfl
theorem tl125 : look TT 125 = some ⟨.func, 1, 8, .nilFunc⟩ := rfl
theorem tl127 : look TT 127 = some ⟨.struct [(0, 47), (1, 9), (2, 126), (3, 3), (4, 78)], 5, 80, .agg #[.pointer none, .string ByteArray.empty, .slice none 0 0, .int .i64 0, .slice none 0 0]⟩ := rfl
theorem tl128 : look TT 128 = some ⟨.struct [(0, 47), (1, 9), (2, 126), (3, 3), (4, 78)], 5, 80, .agg #[.pointer none, .string ByteArray.empty, .slice none 0 0, .int .i64 0, .slice none 0 0]⟩ := rfl
theorem tl129 : look TT 129 = some ⟨.func, 1, 8, .nilFunc⟩ := rfl
theorem tl130 : look TT 130 = some ⟨.func, 1, 8, .nilFunc⟩ := rfl
theorem tl131 : look TT 131 = some ⟨.func, 1, 8, .nilFunc⟩ := rfl
theorem tl132 : look TT 132 = some ⟨.struct [(0, 3), (1, 22)], 2, 32, .agg #[.int .i64 0, .slice none 0 0]⟩ := rfl
theorem tl133 : look TT 133 = some ⟨.struct [(0, 3), (1, 22)], 2, 32, .agg #[.int .i64 0, .slice none 0 0]⟩ := rfl
theorem tl135 : look TT 135 = some ⟨.func, 1, 8, .nilFunc⟩ := rfl
theorem tl136 : look TT 136 = some ⟨.func, 1, 8, .nilFunc⟩ := rfl
theorem tl137 : look TT 137 = some ⟨.func, 1, 8, .nilFunc⟩ := rfl
theorem tl138 : look TT 138 = some ⟨.func, 1, 8, .nilFunc⟩ := rfl
theorem tl140 : look TT 140 = some ⟨.func, 1, 8, .nilFunc⟩ := rfl
theorem tl141 : look TT 141 = some ⟨.func, 1, 8, .nilFunc⟩ := rfl
theorem tl142 : look TT 142 = some ⟨.array 16 119, 16, 64, .agg #[.int .u32 0, .int .u32 0, .int .u32 0, .int .u32 0, .int .u32 0, .int .u32 0, .int .u32 0, .int .u32 0, .int .u32 0, .int .u32 0, .int .u32 0, .int .u32 0, .int .u32 0, .int .u32 0, .int .u32 0, .int .u32 0]⟩ := rfl
theorem tl143 : look TT 143 = some ⟨.func, 1, 8, .nilFunc⟩ := rfl
theorem tl145 : look TT 145 = some ⟨.func, 1, 8, .nilFunc⟩ := rfl
theorem tl146 : look TT 146 = some ⟨.func, 1, 8, .nilFunc⟩ := rfl
theorem tl147 : look TT 147 = some ⟨.ptr 149, 1, 8, .pointer none⟩ := rfl
theorem tl148 : look TT 148 = some ⟨.struct [(0, 147), (1, 23)], 2, 32, .agg #[.pointer none, .slice none 0 0]⟩ := rfl
theorem tl149 : look TT 149 = some ⟨.struct [(0, 147), (1, 23)], 2, 32, .agg #[.pointer none, .slice none 0 0]⟩ := rfl
theorem tl150 : look TT 150 = some ⟨.iface, 1, 16, .nilIface⟩ := rfl
theorem tl151 : look TT 151 = some ⟨.iface, 1, 16, .nilIface⟩ := rfl
theorem tl153 : look TT 153 = some ⟨.func, 1, 8, .nilFunc⟩ := rfl
theorem tl154 : look TT 154 = some ⟨.func, 1, 8, .nilFunc⟩ := rfl
theorem tl156 : look TT 156 = some ⟨.func, 1, 8, .nilFunc⟩ := rfl
theorem tl158 : look TT 158 = some ⟨.func, 1, 8, .nilFunc⟩ := rfl
theorem tl159 : look TT 159 = some ⟨.func, 1, 8, .nilFunc⟩ := rfl
theorem tl160 : look TT 160 = some ⟨.func, 1, 8, .nilFunc⟩ := rfl
theorem tl161 : look TT 161 = some ⟨.func, 1, 8, .nilFunc⟩ := rfl
theorem tl162 : look TT 162 = some ⟨.func, 1, 8, .nilFunc⟩ := rfl
theorem tl164 : look TT 164 = some ⟨.func, 1, 8, .nilFunc⟩ := rfl
theorem tl165 : look TT 165 = some ⟨.func, 1, 8, .nilFunc⟩ := rfl
theorem tl166 : look TT 166 = some ⟨.func, 1, 8, .nilFunc⟩ := rfl
theorem tl168 : look TT 168 = some ⟨.func, 1, 8, .nilFunc⟩ := rfl
theorem tl170 : look TT 170 = some ⟨.func, 1, 8, .nilFunc⟩ := rfl
theorem tl171 : look TT 171 = some ⟨.ptr 5, 1, 8, .pointer none⟩ := rfl
theorem tl172 : look TT 172 = some ⟨.func, 1, 8, .nilFunc⟩ := rfl
theorem tl175 : look TT 175 = some ⟨.func, 1, 8, .nilFunc⟩ := rfl
theorem tl176 : look TT 176 = some ⟨.func, 1, 8, .nilFunc⟩ := rfl
theorem tl177 : look TT 177 = some ⟨.func, 1, 8, .nilFunc⟩ := rfl
theorem tl178 : look TT 178 = some ⟨.func, 1, 8, .nilFunc⟩ := rfl
theorem tl179 : look TT 179 = some ⟨.func, 1, 8, .nilFunc⟩ := rfl
theorem tl180 : look TT 180 = some ⟨.func, 1, 8, .nilFunc⟩ := rfl
theorem tl181 : look TT 181 = some ⟨.array 24 5, 24, 24, .agg #[.int .u8 0, .int .u8 0, .int .u8 0, .int .u8 0, .int .u8 0, .int .u8 0, .int .u8 0, .int .u8 0, .int .u8 0, .int .u8 0, .int .u8 0, .int .u8 0, .int .u8 0, .int .u8 0, .int .u8 0, .int .u8 0, .int .u8 0, .int .u8 0, .int .u8 0, .int .u8 0, .int .u8 0, .int .u8 0, .int .u8 0, .int .u8 0]⟩ := rfl
theorem tl182 : look TT 182 = some ⟨.func, 1, 8, .nilFunc⟩ := rfl
theorem tl184 : look TT 184 = some ⟨.func, 1, 8, .nilFunc⟩ := rfl
theorem tl186 : look TT 186 = some ⟨.func, 1, 8, .nilFunc⟩ := rfl
theorem tl187 : look TT 187 = some ⟨.func, 1, 8, .nilFunc⟩ := rfl
theorem tl189 : look TT 189 = some ⟨.func, 1, 8, .nilFunc⟩ := rfl
theorem tl190 : look TT 190 = some ⟨.func, 1, 8, .nilFunc⟩ := rfl
theorem tl191 : look TT 191 = some ⟨.func, 1, 8, .nilFunc⟩ := rfl
theorem tl192 : look TT 192 = some ⟨.ptr 3, 1, 8, .pointer none⟩ := rfl
theorem tl193 : look TT 193 = some ⟨.func, 1, 8, .nilFunc⟩ := rfl
theorem tl194 : look TT 194 = some ⟨.func, 1, 8, .nilFunc⟩ := rfl
theorem tl195 : look TT 195 = some ⟨.array 20 74, 20, 160, .agg #[.int .u64 0, .int .u64 0, .int .u64 0, .int .u64 0, .int .u64 0, .int .u64 0, .int .u64 0, .int .u64 0, .int .u64 0, .int .u64 0, .int .u64 0, .int .u64 0, .int .u64 0, .int .u64 0, .int .u64 0, .int .u64 0, .int .u64 0, .int .u64 0, .int .u64 0, .int .u64 0]⟩ := rfl
theorem tl196 : look TT 196 = some ⟨.array 65 5, 65, 65, .agg #[.int .u8 0, .int .u8 0, .int .u8 0, .int .u8 0, .int .u8 0, .int .u8 0, .int .u8 0, .int .u8 0, .int .u8 0, .int .u8 0, .int .u8 0, .int .u8 0, .int .u8 0, .int .u8 0, .int .u8 0, .int .u8 0, .int .u8 0, .int .u8 0, .int .u8 0, .int .u8 0, .int .u8 0, .int .u8 0, .int .u8 0, .int .u8 0, .int .u8 0, .int .u8 0, .int .u8 0, .int .u8 0, .int .u8 0, .int .u8 0, .int .u8 0, .int .u8 0, .int .u8 0, .int .u8 0, .int .u8 0, .int .u8 0, .int .u8 0, .int .u8 0, .int .u8 0, .int .u8 0, .int .u8 0, .int .u8 0, .int .u8 0, .int .u8 0, .int .u8 0, .int .u8 0, .int .u8 0, .int .u8 0, .int .u8 0, .int .u8 0, .int .u8 0, .int .u8 0, .int .u8 0, .int .u8 0, .int .u8 0, .int .u8 0, .int .u8 0, .int .u8 0, .int .u8 0, .int .u8 0, .int .u8 0, .int .u8 0, .int .u8 0, .int .u8 0, .int .u8 0]⟩ := rfl
theorem tl197 : look TT 197 = some ⟨.ptr 188, 1, 8, .pointer none⟩ := rfl
theorem tl198 : look TT 198 = some ⟨.func, 1, 8, .nilFunc⟩ := rfl
theorem tl199 : look TT 199 = some ⟨.array 32 5, 32, 32, .agg #[.int .u8 0, .int .u8 0, .int .u8 0, .int .u8 0, .int .u8 0, .int .u8 0, .int .u8 0, .int .u8 0, .int .u8 0, .int .u8 0, .int .u8 0, .int .u8 0, .int .u8 0, .int .u8 0, .int .u8 0, .int .u8 0, .int .u8 0, .int .u8 0, .int .u8 0, .int .u8 0, .int .u8 0, .int .u8 0, .int .u8 0, .int .u8 0, .int .u8 0, .int .u8 0, .int .u8 0, .int .u8 0, .int .u8 0, .int .u8 0, .int .u8 0, .int .u8 0]⟩ := rfl
theorem tl200 : look TT 200 = some ⟨.array 64 5, 64, 64, .agg #[.int .u8 0, .int .u8 0, .int .u8 0, .int .u8 0, .int .u8 0, .int .u8 0, .int .u8 0, .int .u8 0, .int .u8 0, .int .u8 0, .int .u8 0, .int .u8 0, .int .u8 0, .int .u8 0, .int .u8 0, .int .u8 0, .int .u8 0, .int .u8 0, .int .u8 0, .int .u8 0, .int .u8 0, .int .u8 0, .int .u8 0, .int .u8 0, .int .u8 0, .int .u8 0, .int .u8 0, .int .u8 0, .int .u8 0, .int .u8 0, .int .u8 0, .int .u8 0, .int .u8 0, .int .u8 0, .int .u8 0, .int .u8 0, .int .u8 0, .int .u8 0, .int .u8 0, .int .u8 0, .int .u8 0, .int .u8 0, .int .u8 0, .int .u8 0, .int .u8 0, .int .u8 0, .int .u8 0, .int .u8 0, .int .u8 0, .int .u8 0, .int .u8 0, .int .u8 0, .int .u8 0, .int .u8 0, .int .u8 0, .int .u8 0, .int .u8 0, .int .u8 0, .int .u8 0, .int .u8 0, .int .u8 0, .int .u8 0, .int .u8 0, .int .u8 0]⟩ := rfl
theorem tl201 : look TT 201 = some ⟨.struct [(0, 17), (1, 17), (2, 17), (3, 9)], 4, 40, .agg #[.pointer none, .pointer none, .pointer none, .string ByteArray.empty]⟩ := rfl
theorem tl202 : look TT 202 = some ⟨.struct [(0, 17), (1, 17), (2, 17), (3, 9)], 4, 40, .agg #[.pointer none, .pointer none, .pointer none, .string ByteArray.empty]⟩ := rfl
theorem tl203 : look TT 203 = some ⟨.array 0 16, 0, 0, .agg #[]⟩ := rfl
theorem tl204 : look TT 204 = some ⟨.struct [(0, 203)], 0, 0, .agg #[]⟩ := rfl
theorem tl205 : look TT 205 = some ⟨.struct [(0, 203)], 0, 0, .agg #[]⟩ := rfl
theorem tl208 : look TT 208 = some ⟨.func, 1, 8, .nilFunc⟩ := rfl
theorem tl211 : look TT 211 = some ⟨.struct [(0, 12), (1, 12), (2, 119), (3, 206), (4, 5), (5, 5), (6, 207), (7, 208), (8, 171), (9, 209), (10, 210)], 11, 48, .agg #[.int .u64 0, .int .u64 0, .int .u32 0, .int .u8 0, .int .u8 0, .int .u8 0, .int .u8 0, .nilFunc, .pointer none, .int .i32 0, .int .i32 0]⟩ := rfl
theorem tl212 : look TT 212 = some ⟨.struct [(0, 12), (1, 12), (2, 119), (3, 206), (4, 5), (5, 5), (6, 207), (7, 208), (8, 171), (9, 209), (10, 210)], 11, 48, .agg #[.int .u64 0, .int .u64 0, .int .u32 0, .int .u8 0, .int .u8 0, .int .u8 0, .int .u8 0, .nilFunc, .pointer none, .int .i32 0, .int .i32 0]⟩ := rfl
theorem mixed : Tryz.prog.follows .mixedOrders = true := by kernel_rfl
end Go.Proofs.YtjafamiaahabgaaGreatDoor
