/- The table of this translation's types, printed by gen_types.py. Nothing is claimed here. -/
import Derived.Test.YtjgiailgidbkmaaVV
import Derived.Test.YtjgiailgidbkmaaChecked
namespace Go.Proofs.Ytjgiailgidbkmaa
theorem ty2 : TdOk Try.prog 2 ⟨.int .i64, 1, 8, .int .i64 0⟩ := ⟨by kernel_rfl, by kernel_rfl⟩
theorem ty3 : TdOk Try.prog 3 ⟨.int .i64, 1, 8, .int .i64 0⟩ := ⟨by kernel_rfl, by kernel_rfl⟩
theorem ty4 : TdOk Try.prog 4 ⟨.bool, 1, 1, .bool false⟩ := ⟨by kernel_rfl, by kernel_rfl⟩
theorem ty5 : TdOk Try.prog 5 ⟨.int .u8, 1, 1, .int .u8 0⟩ := ⟨by kernel_rfl, by kernel_rfl⟩
theorem ty6 : TdOk Try.prog 6 ⟨.int .u8, 1, 1, .int .u8 0⟩ := ⟨by kernel_rfl, by kernel_rfl⟩
theorem ty12 : TdOk Try.prog 12 ⟨.int .u64, 1, 8, .int .u64 0⟩ := ⟨by kernel_rfl, by kernel_rfl⟩
theorem ty21 : TdOk Try.prog 21 ⟨.int .i32, 1, 4, .int .i32 0⟩ := ⟨by kernel_rfl, by kernel_rfl⟩
theorem ty22 : TdOk Try.prog 22 ⟨.slice 5, 1, 24, .slice none 0 0⟩ := ⟨by kernel_rfl, by kernel_rfl⟩
theorem ty24 : TdOk Try.prog 24 ⟨.int .i64, 1, 8, .int .i64 0⟩ := ⟨by kernel_rfl, by kernel_rfl⟩
theorem ty33 : TdOk Try.prog 33 ⟨.slice 22, 1, 24, .slice none 0 0⟩ := ⟨by kernel_rfl, by kernel_rfl⟩
theorem ty40 : TdOk Try.prog 40 ⟨.slice 47, 1, 24, .slice none 0 0⟩ := ⟨by kernel_rfl, by kernel_rfl⟩
theorem ty58 : TdOk Try.prog 58 ⟨.slice 56, 1, 24, .slice none 0 0⟩ := ⟨by kernel_rfl, by kernel_rfl⟩
theorem ty62 : TdOk Try.prog 62 ⟨.slice 9, 1, 24, .slice none 0 0⟩ := ⟨by kernel_rfl, by kernel_rfl⟩
theorem ty69 : TdOk Try.prog 69 ⟨.slice 82, 1, 24, .slice none 0 0⟩ := ⟨by kernel_rfl, by kernel_rfl⟩
theorem ty84 : TdOk Try.prog 84 ⟨.int .u32, 1, 4, .int .u32 0⟩ := ⟨by kernel_rfl, by kernel_rfl⟩
theorem ty104 : TdOk Try.prog 104 ⟨.int .u64, 1, 8, .int .u64 0⟩ := ⟨by kernel_rfl, by kernel_rfl⟩
theorem ty105 : TdOk Try.prog 105 ⟨.int .u64, 1, 8, .int .u64 0⟩ := ⟨by kernel_rfl, by kernel_rfl⟩
theorem ty116 : TdOk Try.prog 116 ⟨.int .i64, 1, 8, .int .i64 0⟩ := ⟨by kernel_rfl, by kernel_rfl⟩
theorem ty125 : TdOk Try.prog 125 ⟨.int .u64, 1, 8, .int .u64 0⟩ := ⟨by kernel_rfl, by kernel_rfl⟩
theorem ty140 : TdOk Try.prog 140 ⟨.int .u8, 1, 1, .int .u8 0⟩ := ⟨by kernel_rfl, by kernel_rfl⟩
theorem ty141 : TdOk Try.prog 141 ⟨.int .u8, 1, 1, .int .u8 0⟩ := ⟨by kernel_rfl, by kernel_rfl⟩
theorem ty144 : TdOk Try.prog 144 ⟨.int .i32, 1, 4, .int .i32 0⟩ := ⟨by kernel_rfl, by kernel_rfl⟩
theorem ty145 : TdOk Try.prog 145 ⟨.int .i32, 1, 4, .int .i32 0⟩ := ⟨by kernel_rfl, by kernel_rfl⟩
theorem ty1 : TdOk Try.prog 1 ⟨.func, 1, 8, .nilFunc⟩ := ⟨by kernel_rfl, by kernel_rfl⟩
theorem ty7 : TdOk Try.prog 7 ⟨.struct [(0, 2), (1, 3), (2, 4), (3, 6)], 4, 24, .agg #[.int .i64 0, .int .i64 0, .bool false, .int .u8 0]⟩ := ⟨by kernel_rfl, by kernel_rfl⟩
theorem ty8 : TdOk Try.prog 8 ⟨.struct [(0, 2), (1, 3), (2, 4), (3, 6)], 4, 24, .agg #[.int .i64 0, .int .i64 0, .bool false, .int .u8 0]⟩ := ⟨by kernel_rfl, by kernel_rfl⟩
theorem ty9 : TdOk Try.prog 9 ⟨.str, 1, 16, .string ByteArray.empty⟩ := ⟨by kernel_rfl, by kernel_rfl⟩
theorem ty10 : TdOk Try.prog 10 ⟨.str, 1, 16, .string ByteArray.empty⟩ := ⟨by kernel_rfl, by kernel_rfl⟩
theorem ty11 : TdOk Try.prog 11 ⟨.str, 1, 16, .string ByteArray.empty⟩ := ⟨by kernel_rfl, by kernel_rfl⟩
theorem ty13 : TdOk Try.prog 13 ⟨.struct [(0, 9), (1, 12)], 2, 24, .agg #[.string ByteArray.empty, .int .u64 0]⟩ := ⟨by kernel_rfl, by kernel_rfl⟩
theorem ty14 : TdOk Try.prog 14 ⟨.struct [(0, 9), (1, 12)], 2, 24, .agg #[.string ByteArray.empty, .int .u64 0]⟩ := ⟨by kernel_rfl, by kernel_rfl⟩
theorem ty15 : TdOk Try.prog 15 ⟨.ptr 136, 1, 8, .pointer none⟩ := ⟨by kernel_rfl, by kernel_rfl⟩
theorem ty16 : TdOk Try.prog 16 ⟨.ptr 139, 1, 8, .pointer none⟩ := ⟨by kernel_rfl, by kernel_rfl⟩
theorem ty17 : TdOk Try.prog 17 ⟨.ptr 147, 1, 8, .pointer none⟩ := ⟨by kernel_rfl, by kernel_rfl⟩
theorem ty18 : TdOk Try.prog 18 ⟨.struct [(0, 17)], 1, 8, .agg #[.pointer none]⟩ := ⟨by kernel_rfl, by kernel_rfl⟩
theorem ty19 : TdOk Try.prog 19 ⟨.struct [(0, 17)], 1, 8, .agg #[.pointer none]⟩ := ⟨by kernel_rfl, by kernel_rfl⟩
theorem ty20 : TdOk Try.prog 20 ⟨.iface, 1, 16, .nilIface⟩ := ⟨by kernel_rfl, by kernel_rfl⟩
theorem ty23 : TdOk Try.prog 23 ⟨.ptr 52, 1, 8, .pointer none⟩ := ⟨by kernel_rfl, by kernel_rfl⟩
theorem ty26 : TdOk Try.prog 26 ⟨.func, 1, 8, .nilFunc⟩ := ⟨by kernel_rfl, by kernel_rfl⟩
theorem ty27 : TdOk Try.prog 27 ⟨.func, 1, 8, .nilFunc⟩ := ⟨by kernel_rfl, by kernel_rfl⟩
theorem ty29 : TdOk Try.prog 29 ⟨.func, 1, 8, .nilFunc⟩ := ⟨by kernel_rfl, by kernel_rfl⟩
theorem ty30 : TdOk Try.prog 30 ⟨.func, 1, 8, .nilFunc⟩ := ⟨by kernel_rfl, by kernel_rfl⟩
theorem ty31 : TdOk Try.prog 31 ⟨.func, 1, 8, .nilFunc⟩ := ⟨by kernel_rfl, by kernel_rfl⟩
theorem ty32 : TdOk Try.prog 32 ⟨.func, 1, 8, .nilFunc⟩ := ⟨by kernel_rfl, by kernel_rfl⟩
theorem ty34 : TdOk Try.prog 34 ⟨.func, 1, 8, .nilFunc⟩ := ⟨by kernel_rfl, by kernel_rfl⟩
theorem ty35 : TdOk Try.prog 35 ⟨.func, 1, 8, .nilFunc⟩ := ⟨by kernel_rfl, by kernel_rfl⟩
theorem ty37 : TdOk Try.prog 37 ⟨.func, 1, 8, .nilFunc⟩ := ⟨by kernel_rfl, by kernel_rfl⟩
theorem ty38 : TdOk Try.prog 38 ⟨.func, 1, 8, .nilFunc⟩ := ⟨by kernel_rfl, by kernel_rfl⟩
theorem ty39 : TdOk Try.prog 39 ⟨.func, 1, 8, .nilFunc⟩ := ⟨by kernel_rfl, by kernel_rfl⟩
theorem ty41 : TdOk Try.prog 41 ⟨.func, 1, 8, .nilFunc⟩ := ⟨by kernel_rfl, by kernel_rfl⟩
theorem ty42 : TdOk Try.prog 42 ⟨.ptr 71, 1, 8, .pointer none⟩ := ⟨by kernel_rfl, by kernel_rfl⟩
theorem ty44 : TdOk Try.prog 44 ⟨.func, 1, 8, .nilFunc⟩ := ⟨by kernel_rfl, by kernel_rfl⟩
theorem ty45 : TdOk Try.prog 45 ⟨.func, 1, 8, .nilFunc⟩ := ⟨by kernel_rfl, by kernel_rfl⟩
theorem ty46 : TdOk Try.prog 46 ⟨.struct [(0, 3), (1, 3), (2, 9), (3, 22), (4, 5)], 5, 64, .agg #[.int .i64 0, .int .i64 0, .string ByteArray.empty, .slice none 0 0, .int .u8 0]⟩ := ⟨by kernel_rfl, by kernel_rfl⟩
theorem ty47 : TdOk Try.prog 47 ⟨.struct [(0, 3), (1, 3), (2, 9), (3, 22), (4, 5)], 5, 64, .agg #[.int .i64 0, .int .i64 0, .string ByteArray.empty, .slice none 0 0, .int .u8 0]⟩ := ⟨by kernel_rfl, by kernel_rfl⟩
theorem ty48 : TdOk Try.prog 48 ⟨.func, 1, 8, .nilFunc⟩ := ⟨by kernel_rfl, by kernel_rfl⟩
theorem ty49 : TdOk Try.prog 49 ⟨.func, 1, 8, .nilFunc⟩ := ⟨by kernel_rfl, by kernel_rfl⟩
theorem ty50 : TdOk Try.prog 50 ⟨.map 9 65, 1, 8, .map none⟩ := ⟨by kernel_rfl, by kernel_rfl⟩
theorem ty51 : TdOk Try.prog 51 ⟨.struct [(0, 3), (1, 3), (2, 50)], 3, 24, .agg #[.int .i64 0, .int .i64 0, .map none]⟩ := ⟨by kernel_rfl, by kernel_rfl⟩
theorem ty52 : TdOk Try.prog 52 ⟨.struct [(0, 3), (1, 3), (2, 50)], 3, 24, .agg #[.int .i64 0, .int .i64 0, .map none]⟩ := ⟨by kernel_rfl, by kernel_rfl⟩
theorem ty53 : TdOk Try.prog 53 ⟨.func, 1, 8, .nilFunc⟩ := ⟨by kernel_rfl, by kernel_rfl⟩
theorem ty54 : TdOk Try.prog 54 ⟨.func, 1, 8, .nilFunc⟩ := ⟨by kernel_rfl, by kernel_rfl⟩
theorem ty55 : TdOk Try.prog 55 ⟨.func, 1, 8, .nilFunc⟩ := ⟨by kernel_rfl, by kernel_rfl⟩
theorem ty56 : TdOk Try.prog 56 ⟨.func, 1, 8, .nilFunc⟩ := ⟨by kernel_rfl, by kernel_rfl⟩
theorem ty57 : TdOk Try.prog 57 ⟨.func, 1, 8, .nilFunc⟩ := ⟨by kernel_rfl, by kernel_rfl⟩
theorem ty59 : TdOk Try.prog 59 ⟨.func, 1, 8, .nilFunc⟩ := ⟨by kernel_rfl, by kernel_rfl⟩
theorem ty61 : TdOk Try.prog 61 ⟨.func, 1, 8, .nilFunc⟩ := ⟨by kernel_rfl, by kernel_rfl⟩
theorem ty63 : TdOk Try.prog 63 ⟨.func, 1, 8, .nilFunc⟩ := ⟨by kernel_rfl, by kernel_rfl⟩
theorem ty64 : TdOk Try.prog 64 ⟨.struct [(0, 22), (1, 3)], 2, 32, .agg #[.slice none 0 0, .int .i64 0]⟩ := ⟨by kernel_rfl, by kernel_rfl⟩
theorem ty65 : TdOk Try.prog 65 ⟨.struct [(0, 22), (1, 3)], 2, 32, .agg #[.slice none 0 0, .int .i64 0]⟩ := ⟨by kernel_rfl, by kernel_rfl⟩
theorem ty66 : TdOk Try.prog 66 ⟨.func, 1, 8, .nilFunc⟩ := ⟨by kernel_rfl, by kernel_rfl⟩
theorem ty68 : TdOk Try.prog 68 ⟨.func, 1, 8, .nilFunc⟩ := ⟨by kernel_rfl, by kernel_rfl⟩
theorem ty70 : TdOk Try.prog 70 ⟨.struct [(0, 3), (1, 69)], 2, 32, .agg #[.int .i64 0, .slice none 0 0]⟩ := ⟨by kernel_rfl, by kernel_rfl⟩
theorem ty71 : TdOk Try.prog 71 ⟨.struct [(0, 3), (1, 69)], 2, 32, .agg #[.int .i64 0, .slice none 0 0]⟩ := ⟨by kernel_rfl, by kernel_rfl⟩
theorem ty72 : TdOk Try.prog 72 ⟨.func, 1, 8, .nilFunc⟩ := ⟨by kernel_rfl, by kernel_rfl⟩
theorem ty73 : TdOk Try.prog 73 ⟨.func, 1, 8, .nilFunc⟩ := ⟨by kernel_rfl, by kernel_rfl⟩
theorem ty75 : TdOk Try.prog 75 ⟨.func, 1, 8, .nilFunc⟩ := ⟨by kernel_rfl, by kernel_rfl⟩
theorem ty76 : TdOk Try.prog 76 ⟨.func, 1, 8, .nilFunc⟩ := ⟨by kernel_rfl, by kernel_rfl⟩
theorem ty77 : TdOk Try.prog 77 ⟨.func, 1, 8, .nilFunc⟩ := ⟨by kernel_rfl, by kernel_rfl⟩
theorem ty78 : TdOk Try.prog 78 ⟨.func, 1, 8, .nilFunc⟩ := ⟨by kernel_rfl, by kernel_rfl⟩
theorem ty79 : TdOk Try.prog 79 ⟨.func, 1, 8, .nilFunc⟩ := ⟨by kernel_rfl, by kernel_rfl⟩
theorem ty80 : TdOk Try.prog 80 ⟨.func, 1, 8, .nilFunc⟩ := ⟨by kernel_rfl, by kernel_rfl⟩
theorem ty81 : TdOk Try.prog 81 ⟨.struct [(0, 9), (1, 22), (2, 3)], 3, 48, .agg #[.string ByteArray.empty, .slice none 0 0, .int .i64 0]⟩ := ⟨by kernel_rfl, by kernel_rfl⟩
theorem ty82 : TdOk Try.prog 82 ⟨.struct [(0, 9), (1, 22), (2, 3)], 3, 48, .agg #[.string ByteArray.empty, .slice none 0 0, .int .i64 0]⟩ := ⟨by kernel_rfl, by kernel_rfl⟩
theorem ty83 : TdOk Try.prog 83 ⟨.func, 1, 8, .nilFunc⟩ := ⟨by kernel_rfl, by kernel_rfl⟩
theorem ty85 : TdOk Try.prog 85 ⟨.func, 1, 8, .nilFunc⟩ := ⟨by kernel_rfl, by kernel_rfl⟩
theorem ty86 : TdOk Try.prog 86 ⟨.func, 1, 8, .nilFunc⟩ := ⟨by kernel_rfl, by kernel_rfl⟩
theorem ty88 : TdOk Try.prog 88 ⟨.func, 1, 8, .nilFunc⟩ := ⟨by kernel_rfl, by kernel_rfl⟩
theorem ty89 : TdOk Try.prog 89 ⟨.func, 1, 8, .nilFunc⟩ := ⟨by kernel_rfl, by kernel_rfl⟩
theorem ty90 : TdOk Try.prog 90 ⟨.func, 1, 8, .nilFunc⟩ := ⟨by kernel_rfl, by kernel_rfl⟩
theorem ty91 : TdOk Try.prog 91 ⟨.func, 1, 8, .nilFunc⟩ := ⟨by kernel_rfl, by kernel_rfl⟩
theorem ty92 : TdOk Try.prog 92 ⟨.func, 1, 8, .nilFunc⟩ := ⟨by kernel_rfl, by kernel_rfl⟩
theorem ty93 : TdOk Try.prog 93 ⟨.func, 1, 8, .nilFunc⟩ := ⟨by kernel_rfl, by kernel_rfl⟩
theorem ty94 : TdOk Try.prog 94 ⟨.func, 1, 8, .nilFunc⟩ := ⟨by kernel_rfl, by kernel_rfl⟩
theorem ty95 : TdOk Try.prog 95 ⟨.func, 1, 8, .nilFunc⟩ := ⟨by kernel_rfl, by kernel_rfl⟩
theorem ty96 : TdOk Try.prog 96 ⟨.func, 1, 8, .nilFunc⟩ := ⟨by kernel_rfl, by kernel_rfl⟩
theorem ty98 : TdOk Try.prog 98 ⟨.func, 1, 8, .nilFunc⟩ := ⟨by kernel_rfl, by kernel_rfl⟩
theorem ty99 : TdOk Try.prog 99 ⟨.func, 1, 8, .nilFunc⟩ := ⟨by kernel_rfl, by kernel_rfl⟩
theorem ty100 : TdOk Try.prog 100 ⟨.func, 1, 8, .nilFunc⟩ := ⟨by kernel_rfl, by kernel_rfl⟩
theorem ty101 : TdOk Try.prog 101 ⟨.func, 1, 8, .nilFunc⟩ := ⟨by kernel_rfl, by kernel_rfl⟩
theorem ty102 : TdOk Try.prog 102 ⟨.func, 1, 8, .nilFunc⟩ := ⟨by kernel_rfl, by kernel_rfl⟩
theorem ty103 : TdOk Try.prog 103 ⟨.func, 1, 8, .nilFunc⟩ := ⟨by kernel_rfl, by kernel_rfl⟩
theorem ty106 : TdOk Try.prog 106 ⟨.array 16 84, 16, 64, .agg #[.int .u32 0, .int .u32 0, .int .u32 0, .int .u32 0, .int .u32 0, .int .u32 0, .int .u32 0, .int .u32 0, .int .u32 0, .int .u32 0, .int .u32 0, .int .u32 0, .int .u32 0, .int .u32 0, .int .u32 0, .int .u32 0]⟩ := ⟨by kernel_rfl, by kernel_rfl⟩
theorem ty107 : TdOk Try.prog 107 ⟨.func, 1, 8, .nilFunc⟩ := ⟨by kernel_rfl, by kernel_rfl⟩
theorem ty109 : TdOk Try.prog 109 ⟨.func, 1, 8, .nilFunc⟩ := ⟨by kernel_rfl, by kernel_rfl⟩
theorem ty110 : TdOk Try.prog 110 ⟨.func, 1, 8, .nilFunc⟩ := ⟨by kernel_rfl, by kernel_rfl⟩
theorem ty111 : TdOk Try.prog 111 ⟨.func, 1, 8, .nilFunc⟩ := ⟨by kernel_rfl, by kernel_rfl⟩
theorem ty112 : TdOk Try.prog 112 ⟨.func, 1, 8, .nilFunc⟩ := ⟨by kernel_rfl, by kernel_rfl⟩
theorem ty113 : TdOk Try.prog 113 ⟨.func, 1, 8, .nilFunc⟩ := ⟨by kernel_rfl, by kernel_rfl⟩
theorem ty114 : TdOk Try.prog 114 ⟨.func, 1, 8, .nilFunc⟩ := ⟨by kernel_rfl, by kernel_rfl⟩
theorem ty115 : TdOk Try.prog 115 ⟨.func, 1, 8, .nilFunc⟩ := ⟨by kernel_rfl, by kernel_rfl⟩
theorem ty118 : TdOk Try.prog 118 ⟨.func, 1, 8, .nilFunc⟩ := ⟨by kernel_rfl, by kernel_rfl⟩
theorem ty119 : TdOk Try.prog 119 ⟨.func, 1, 8, .nilFunc⟩ := ⟨by kernel_rfl, by kernel_rfl⟩
theorem ty120 : TdOk Try.prog 120 ⟨.func, 1, 8, .nilFunc⟩ := ⟨by kernel_rfl, by kernel_rfl⟩
theorem ty121 : TdOk Try.prog 121 ⟨.func, 1, 8, .nilFunc⟩ := ⟨by kernel_rfl, by kernel_rfl⟩
theorem ty122 : TdOk Try.prog 122 ⟨.func, 1, 8, .nilFunc⟩ := ⟨by kernel_rfl, by kernel_rfl⟩
theorem ty123 : TdOk Try.prog 123 ⟨.func, 1, 8, .nilFunc⟩ := ⟨by kernel_rfl, by kernel_rfl⟩
theorem ty124 : TdOk Try.prog 124 ⟨.func, 1, 8, .nilFunc⟩ := ⟨by kernel_rfl, by kernel_rfl⟩
theorem ty126 : TdOk Try.prog 126 ⟨.func, 1, 8, .nilFunc⟩ := ⟨by kernel_rfl, by kernel_rfl⟩
theorem ty127 : TdOk Try.prog 127 ⟨.func, 1, 8, .nilFunc⟩ := ⟨by kernel_rfl, by kernel_rfl⟩
theorem ty128 : TdOk Try.prog 128 ⟨.func, 1, 8, .nilFunc⟩ := ⟨by kernel_rfl, by kernel_rfl⟩
theorem ty129 : TdOk Try.prog 129 ⟨.ptr 3, 1, 8, .pointer none⟩ := ⟨by kernel_rfl, by kernel_rfl⟩
theorem ty130 : TdOk Try.prog 130 ⟨.func, 1, 8, .nilFunc⟩ := ⟨by kernel_rfl, by kernel_rfl⟩
theorem ty131 : TdOk Try.prog 131 ⟨.ptr 125, 1, 8, .pointer none⟩ := ⟨by kernel_rfl, by kernel_rfl⟩
theorem ty133 : TdOk Try.prog 133 ⟨.func, 1, 8, .nilFunc⟩ := ⟨by kernel_rfl, by kernel_rfl⟩
theorem ty134 : TdOk Try.prog 134 ⟨.func, 1, 8, .nilFunc⟩ := ⟨by kernel_rfl, by kernel_rfl⟩
theorem ty135 : TdOk Try.prog 135 ⟨.struct [(0, 17), (1, 17), (2, 17), (3, 9)], 4, 40, .agg #[.pointer none, .pointer none, .pointer none, .string ByteArray.empty]⟩ := ⟨by kernel_rfl, by kernel_rfl⟩
theorem ty136 : TdOk Try.prog 136 ⟨.struct [(0, 17), (1, 17), (2, 17), (3, 9)], 4, 40, .agg #[.pointer none, .pointer none, .pointer none, .string ByteArray.empty]⟩ := ⟨by kernel_rfl, by kernel_rfl⟩
theorem ty137 : TdOk Try.prog 137 ⟨.array 0 16, 0, 0, .agg #[]⟩ := ⟨by kernel_rfl, by kernel_rfl⟩
theorem ty138 : TdOk Try.prog 138 ⟨.struct [(0, 137)], 0, 0, .agg #[]⟩ := ⟨by kernel_rfl, by kernel_rfl⟩
theorem ty139 : TdOk Try.prog 139 ⟨.struct [(0, 137)], 0, 0, .agg #[]⟩ := ⟨by kernel_rfl, by kernel_rfl⟩
theorem ty142 : TdOk Try.prog 142 ⟨.func, 1, 8, .nilFunc⟩ := ⟨by kernel_rfl, by kernel_rfl⟩
theorem ty143 : TdOk Try.prog 143 ⟨.ptr 5, 1, 8, .pointer none⟩ := ⟨by kernel_rfl, by kernel_rfl⟩
theorem ty146 : TdOk Try.prog 146 ⟨.struct [(0, 12), (1, 12), (2, 84), (3, 140), (4, 5), (5, 5), (6, 141), (7, 142), (8, 143), (9, 144), (10, 145)], 11, 48, .agg #[.int .u64 0, .int .u64 0, .int .u32 0, .int .u8 0, .int .u8 0, .int .u8 0, .int .u8 0, .nilFunc, .pointer none, .int .i32 0, .int .i32 0]⟩ := ⟨by kernel_rfl, by kernel_rfl⟩
theorem ty147 : TdOk Try.prog 147 ⟨.struct [(0, 12), (1, 12), (2, 84), (3, 140), (4, 5), (5, 5), (6, 141), (7, 142), (8, 143), (9, 144), (10, 145)], 11, 48, .agg #[.int .u64 0, .int .u64 0, .int .u32 0, .int .u8 0, .int .u8 0, .int .u8 0, .int .u8 0, .nilFunc, .pointer none, .int .i32 0, .int .i32 0]⟩ := ⟨by kernel_rfl, by kernel_rfl⟩
def TT : Tab := [(2, ⟨.int .i64, 1, 8, .int .i64 0⟩),
  (3, ⟨.int .i64, 1, 8, .int .i64 0⟩),
  (4, ⟨.bool, 1, 1, .bool false⟩),
  (5, ⟨.int .u8, 1, 1, .int .u8 0⟩),
  (6, ⟨.int .u8, 1, 1, .int .u8 0⟩),
  (12, ⟨.int .u64, 1, 8, .int .u64 0⟩),
  (21, ⟨.int .i32, 1, 4, .int .i32 0⟩),
  (22, ⟨.slice 5, 1, 24, .slice none 0 0⟩),
  (24, ⟨.int .i64, 1, 8, .int .i64 0⟩),
  (33, ⟨.slice 22, 1, 24, .slice none 0 0⟩),
  (40, ⟨.slice 47, 1, 24, .slice none 0 0⟩),
  (58, ⟨.slice 56, 1, 24, .slice none 0 0⟩),
  (62, ⟨.slice 9, 1, 24, .slice none 0 0⟩),
  (69, ⟨.slice 82, 1, 24, .slice none 0 0⟩),
  (84, ⟨.int .u32, 1, 4, .int .u32 0⟩),
  (104, ⟨.int .u64, 1, 8, .int .u64 0⟩),
  (105, ⟨.int .u64, 1, 8, .int .u64 0⟩),
  (116, ⟨.int .i64, 1, 8, .int .i64 0⟩),
  (125, ⟨.int .u64, 1, 8, .int .u64 0⟩),
  (140, ⟨.int .u8, 1, 1, .int .u8 0⟩),
  (141, ⟨.int .u8, 1, 1, .int .u8 0⟩),
  (144, ⟨.int .i32, 1, 4, .int .i32 0⟩),
  (145, ⟨.int .i32, 1, 4, .int .i32 0⟩),
  (1, ⟨.func, 1, 8, .nilFunc⟩),
  (7, ⟨.struct [(0, 2), (1, 3), (2, 4), (3, 6)], 4, 24, .agg #[.int .i64 0, .int .i64 0, .bool false, .int .u8 0]⟩),
  (8, ⟨.struct [(0, 2), (1, 3), (2, 4), (3, 6)], 4, 24, .agg #[.int .i64 0, .int .i64 0, .bool false, .int .u8 0]⟩),
  (9, ⟨.str, 1, 16, .string ByteArray.empty⟩),
  (10, ⟨.str, 1, 16, .string ByteArray.empty⟩),
  (11, ⟨.str, 1, 16, .string ByteArray.empty⟩),
  (13, ⟨.struct [(0, 9), (1, 12)], 2, 24, .agg #[.string ByteArray.empty, .int .u64 0]⟩),
  (14, ⟨.struct [(0, 9), (1, 12)], 2, 24, .agg #[.string ByteArray.empty, .int .u64 0]⟩),
  (15, ⟨.ptr 136, 1, 8, .pointer none⟩),
  (16, ⟨.ptr 139, 1, 8, .pointer none⟩),
  (17, ⟨.ptr 147, 1, 8, .pointer none⟩),
  (18, ⟨.struct [(0, 17)], 1, 8, .agg #[.pointer none]⟩),
  (19, ⟨.struct [(0, 17)], 1, 8, .agg #[.pointer none]⟩),
  (20, ⟨.iface, 1, 16, .nilIface⟩),
  (23, ⟨.ptr 52, 1, 8, .pointer none⟩),
  (26, ⟨.func, 1, 8, .nilFunc⟩),
  (27, ⟨.func, 1, 8, .nilFunc⟩),
  (29, ⟨.func, 1, 8, .nilFunc⟩),
  (30, ⟨.func, 1, 8, .nilFunc⟩),
  (31, ⟨.func, 1, 8, .nilFunc⟩),
  (32, ⟨.func, 1, 8, .nilFunc⟩),
  (34, ⟨.func, 1, 8, .nilFunc⟩),
  (35, ⟨.func, 1, 8, .nilFunc⟩),
  (37, ⟨.func, 1, 8, .nilFunc⟩),
  (38, ⟨.func, 1, 8, .nilFunc⟩),
  (39, ⟨.func, 1, 8, .nilFunc⟩),
  (41, ⟨.func, 1, 8, .nilFunc⟩),
  (42, ⟨.ptr 71, 1, 8, .pointer none⟩),
  (44, ⟨.func, 1, 8, .nilFunc⟩),
  (45, ⟨.func, 1, 8, .nilFunc⟩),
  (46, ⟨.struct [(0, 3), (1, 3), (2, 9), (3, 22), (4, 5)], 5, 64, .agg #[.int .i64 0, .int .i64 0, .string ByteArray.empty, .slice none 0 0, .int .u8 0]⟩),
  (47, ⟨.struct [(0, 3), (1, 3), (2, 9), (3, 22), (4, 5)], 5, 64, .agg #[.int .i64 0, .int .i64 0, .string ByteArray.empty, .slice none 0 0, .int .u8 0]⟩),
  (48, ⟨.func, 1, 8, .nilFunc⟩),
  (49, ⟨.func, 1, 8, .nilFunc⟩),
  (50, ⟨.map 9 65, 1, 8, .map none⟩),
  (51, ⟨.struct [(0, 3), (1, 3), (2, 50)], 3, 24, .agg #[.int .i64 0, .int .i64 0, .map none]⟩),
  (52, ⟨.struct [(0, 3), (1, 3), (2, 50)], 3, 24, .agg #[.int .i64 0, .int .i64 0, .map none]⟩),
  (53, ⟨.func, 1, 8, .nilFunc⟩),
  (54, ⟨.func, 1, 8, .nilFunc⟩),
  (55, ⟨.func, 1, 8, .nilFunc⟩),
  (56, ⟨.func, 1, 8, .nilFunc⟩),
  (57, ⟨.func, 1, 8, .nilFunc⟩),
  (59, ⟨.func, 1, 8, .nilFunc⟩),
  (61, ⟨.func, 1, 8, .nilFunc⟩),
  (63, ⟨.func, 1, 8, .nilFunc⟩),
  (64, ⟨.struct [(0, 22), (1, 3)], 2, 32, .agg #[.slice none 0 0, .int .i64 0]⟩),
  (65, ⟨.struct [(0, 22), (1, 3)], 2, 32, .agg #[.slice none 0 0, .int .i64 0]⟩),
  (66, ⟨.func, 1, 8, .nilFunc⟩),
  (68, ⟨.func, 1, 8, .nilFunc⟩),
  (70, ⟨.struct [(0, 3), (1, 69)], 2, 32, .agg #[.int .i64 0, .slice none 0 0]⟩),
  (71, ⟨.struct [(0, 3), (1, 69)], 2, 32, .agg #[.int .i64 0, .slice none 0 0]⟩),
  (72, ⟨.func, 1, 8, .nilFunc⟩),
  (73, ⟨.func, 1, 8, .nilFunc⟩),
  (75, ⟨.func, 1, 8, .nilFunc⟩),
  (76, ⟨.func, 1, 8, .nilFunc⟩),
  (77, ⟨.func, 1, 8, .nilFunc⟩),
  (78, ⟨.func, 1, 8, .nilFunc⟩),
  (79, ⟨.func, 1, 8, .nilFunc⟩),
  (80, ⟨.func, 1, 8, .nilFunc⟩),
  (81, ⟨.struct [(0, 9), (1, 22), (2, 3)], 3, 48, .agg #[.string ByteArray.empty, .slice none 0 0, .int .i64 0]⟩),
  (82, ⟨.struct [(0, 9), (1, 22), (2, 3)], 3, 48, .agg #[.string ByteArray.empty, .slice none 0 0, .int .i64 0]⟩),
  (83, ⟨.func, 1, 8, .nilFunc⟩),
  (85, ⟨.func, 1, 8, .nilFunc⟩),
  (86, ⟨.func, 1, 8, .nilFunc⟩),
  (88, ⟨.func, 1, 8, .nilFunc⟩),
  (89, ⟨.func, 1, 8, .nilFunc⟩),
  (90, ⟨.func, 1, 8, .nilFunc⟩),
  (91, ⟨.func, 1, 8, .nilFunc⟩),
  (92, ⟨.func, 1, 8, .nilFunc⟩),
  (93, ⟨.func, 1, 8, .nilFunc⟩),
  (94, ⟨.func, 1, 8, .nilFunc⟩),
  (95, ⟨.func, 1, 8, .nilFunc⟩),
  (96, ⟨.func, 1, 8, .nilFunc⟩),
  (98, ⟨.func, 1, 8, .nilFunc⟩),
  (99, ⟨.func, 1, 8, .nilFunc⟩),
  (100, ⟨.func, 1, 8, .nilFunc⟩),
  (101, ⟨.func, 1, 8, .nilFunc⟩),
  (102, ⟨.func, 1, 8, .nilFunc⟩),
  (103, ⟨.func, 1, 8, .nilFunc⟩),
  (106, ⟨.array 16 84, 16, 64, .agg #[.int .u32 0, .int .u32 0, .int .u32 0, .int .u32 0, .int .u32 0, .int .u32 0, .int .u32 0, .int .u32 0, .int .u32 0, .int .u32 0, .int .u32 0, .int .u32 0, .int .u32 0, .int .u32 0, .int .u32 0, .int .u32 0]⟩),
  (107, ⟨.func, 1, 8, .nilFunc⟩),
  (109, ⟨.func, 1, 8, .nilFunc⟩),
  (110, ⟨.func, 1, 8, .nilFunc⟩),
  (111, ⟨.func, 1, 8, .nilFunc⟩),
  (112, ⟨.func, 1, 8, .nilFunc⟩),
  (113, ⟨.func, 1, 8, .nilFunc⟩),
  (114, ⟨.func, 1, 8, .nilFunc⟩),
  (115, ⟨.func, 1, 8, .nilFunc⟩),
  (118, ⟨.func, 1, 8, .nilFunc⟩),
  (119, ⟨.func, 1, 8, .nilFunc⟩),
  (120, ⟨.func, 1, 8, .nilFunc⟩),
  (121, ⟨.func, 1, 8, .nilFunc⟩),
  (122, ⟨.func, 1, 8, .nilFunc⟩),
  (123, ⟨.func, 1, 8, .nilFunc⟩),
  (124, ⟨.func, 1, 8, .nilFunc⟩),
  (126, ⟨.func, 1, 8, .nilFunc⟩),
  (127, ⟨.func, 1, 8, .nilFunc⟩),
  (128, ⟨.func, 1, 8, .nilFunc⟩),
  (129, ⟨.ptr 3, 1, 8, .pointer none⟩),
  (130, ⟨.func, 1, 8, .nilFunc⟩),
  (131, ⟨.ptr 125, 1, 8, .pointer none⟩),
  (133, ⟨.func, 1, 8, .nilFunc⟩),
  (134, ⟨.func, 1, 8, .nilFunc⟩),
  (135, ⟨.struct [(0, 17), (1, 17), (2, 17), (3, 9)], 4, 40, .agg #[.pointer none, .pointer none, .pointer none, .string ByteArray.empty]⟩),
  (136, ⟨.struct [(0, 17), (1, 17), (2, 17), (3, 9)], 4, 40, .agg #[.pointer none, .pointer none, .pointer none, .string ByteArray.empty]⟩),
  (137, ⟨.array 0 16, 0, 0, .agg #[]⟩),
  (138, ⟨.struct [(0, 137)], 0, 0, .agg #[]⟩),
  (139, ⟨.struct [(0, 137)], 0, 0, .agg #[]⟩),
  (142, ⟨.func, 1, 8, .nilFunc⟩),
  (143, ⟨.ptr 5, 1, 8, .pointer none⟩),
  (146, ⟨.struct [(0, 12), (1, 12), (2, 84), (3, 140), (4, 5), (5, 5), (6, 141), (7, 142), (8, 143), (9, 144), (10, 145)], 11, 48, .agg #[.int .u64 0, .int .u64 0, .int .u32 0, .int .u8 0, .int .u8 0, .int .u8 0, .int .u8 0, .nilFunc, .pointer none, .int .i32 0, .int .i32 0]⟩),
  (147, ⟨.struct [(0, 12), (1, 12), (2, 84), (3, 140), (4, 5), (5, 5), (6, 141), (7, 142), (8, 143), (9, 144), (10, 145)], 11, 48, .agg #[.int .u64 0, .int .u64 0, .int .u32 0, .int .u8 0, .int .u8 0, .int .u8 0, .int .u8 0, .nilFunc, .pointer none, .int .i32 0, .int .i32 0]⟩)]
theorem ttOk : TabOk Try.prog TT := tabOk_cons ty2 <| tabOk_cons ty3 <| tabOk_cons ty4 <| tabOk_cons ty5 <| tabOk_cons ty6 <| tabOk_cons ty12 <| tabOk_cons ty21 <| tabOk_cons ty22 <| tabOk_cons ty24 <| tabOk_cons ty33 <| tabOk_cons ty40 <| tabOk_cons ty58 <| tabOk_cons ty62 <| tabOk_cons ty69 <| tabOk_cons ty84 <| tabOk_cons ty104 <| tabOk_cons ty105 <| tabOk_cons ty116 <| tabOk_cons ty125 <| tabOk_cons ty140 <| tabOk_cons ty141 <| tabOk_cons ty144 <| tabOk_cons ty145 <| tabOk_cons ty1 <| tabOk_cons ty7 <| tabOk_cons ty8 <| tabOk_cons ty9 <| tabOk_cons ty10 <| tabOk_cons ty11 <| tabOk_cons ty13 <| tabOk_cons ty14 <| tabOk_cons ty15 <| tabOk_cons ty16 <| tabOk_cons ty17 <| tabOk_cons ty18 <| tabOk_cons ty19 <| tabOk_cons ty20 <| tabOk_cons ty23 <| tabOk_cons ty26 <| tabOk_cons ty27 <| tabOk_cons ty29 <| tabOk_cons ty30 <| tabOk_cons ty31 <| tabOk_cons ty32 <| tabOk_cons ty34 <| tabOk_cons ty35 <| tabOk_cons ty37 <| tabOk_cons ty38 <| tabOk_cons ty39 <| tabOk_cons ty41 <| tabOk_cons ty42 <| tabOk_cons ty44 <| tabOk_cons ty45 <| tabOk_cons ty46 <| tabOk_cons ty47 <| tabOk_cons ty48 <| tabOk_cons ty49 <| tabOk_cons ty50 <| tabOk_cons ty51 <| tabOk_cons ty52 <| tabOk_cons ty53 <| tabOk_cons ty54 <| tabOk_cons ty55 <| tabOk_cons ty56 <| tabOk_cons ty57 <| tabOk_cons ty59 <| tabOk_cons ty61 <| tabOk_cons ty63 <| tabOk_cons ty64 <| tabOk_cons ty65 <| tabOk_cons ty66 <| tabOk_cons ty68 <| tabOk_cons ty70 <| tabOk_cons ty71 <| tabOk_cons ty72 <| tabOk_cons ty73 <| tabOk_cons ty75 <| tabOk_cons ty76 <| tabOk_cons ty77 <| tabOk_cons ty78 <| tabOk_cons ty79 <| tabOk_cons ty80 <| tabOk_cons ty81 <| tabOk_cons ty82 <| tabOk_cons ty83 <| tabOk_cons ty85 <| tabOk_cons ty86 <| tabOk_cons ty88 <| tabOk_cons ty89 <| tabOk_cons ty90 <| tabOk_cons ty91 <| tabOk_cons ty92 <| tabOk_cons ty93 <| tabOk_cons ty94 <| tabOk_cons ty95 <| tabOk_cons ty96 <| tabOk_cons ty98 <| tabOk_cons ty99 <| tabOk_cons ty100 <| tabOk_cons ty101 <| tabOk_cons ty102 <| tabOk_cons ty103 <| tabOk_cons ty106 <| tabOk_cons ty107 <| tabOk_cons ty109 <| tabOk_cons ty110 <| tabOk_cons ty111 <| tabOk_cons ty112 <| tabOk_cons ty113 <| tabOk_cons ty114 <| tabOk_cons ty115 <| tabOk_cons ty118 <| tabOk_cons ty119 <| tabOk_cons ty120 <| tabOk_cons ty121 <| tabOk_cons ty122 <| tabOk_cons ty123 <| tabOk_cons ty124 <| tabOk_cons ty126 <| tabOk_cons ty127 <| tabOk_cons ty128 <| tabOk_cons ty129 <| tabOk_cons ty130 <| tabOk_cons ty131 <| tabOk_cons ty133 <| tabOk_cons ty134 <| tabOk_cons ty135 <| tabOk_cons ty136 <| tabOk_cons ty137 <| tabOk_cons ty138 <| tabOk_cons ty139 <| tabOk_cons ty142 <| tabOk_cons ty143 <| tabOk_cons ty146 <| tabOk_cons ty147 <| tabOk_nil
theorem tl2 : look TT 2 = some ⟨.int .i64, 1, 8, .int .i64 0⟩ := rfl
theorem tl3 : look TT 3 = some ⟨.int .i64, 1, 8, .int .i64 0⟩ := rfl
theorem tl4 : look TT 4 = some ⟨.bool, 1, 1, .bool false⟩ := rfl
theorem tl5 : look TT 5 = some ⟨.int .u8, 1, 1, .int .u8 0⟩ := rfl
theorem tl6 : look TT 6 = some ⟨.int .u8, 1, 1, .int .u8 0⟩ := rfl
theorem tl12 : look TT 12 = some ⟨.int .u64, 1, 8, .int .u64 0⟩ := rfl
theorem tl21 : look TT 21 = some ⟨.int .i32, 1, 4, .int .i32 0⟩ := rfl
theorem tl22 : look TT 22 = some ⟨.slice 5, 1, 24, .slice none 0 0⟩ := rfl
theorem tl24 : look TT 24 = some ⟨.int .i64, 1, 8, .int .i64 0⟩ := rfl
theorem tl33 : look TT 33 = some ⟨.slice 22, 1, 24, .slice none 0 0⟩ := rfl
theorem tl40 : look TT 40 = some ⟨.slice 47, 1, 24, .slice none 0 0⟩ := rfl
theorem tl58 : look TT 58 = some ⟨.slice 56, 1, 24, .slice none 0 0⟩ := rfl
theorem tl62 : look TT 62 = some ⟨.slice 9, 1, 24, .slice none 0 0⟩ := rfl
theorem tl69 : look TT 69 = some ⟨.slice 82, 1, 24, .slice none 0 0⟩ := rfl
theorem tl84 : look TT 84 = some ⟨.int .u32, 1, 4, .int .u32 0⟩ := rfl
theorem tl104 : look TT 104 = some ⟨.int .u64, 1, 8, .int .u64 0⟩ := rfl
theorem tl105 : look TT 105 = some ⟨.int .u64, 1, 8, .int .u64 0⟩ := rfl
theorem tl116 : look TT 116 = some ⟨.int .i64, 1, 8, .int .i64 0⟩ := rfl
theorem tl125 : look TT 125 = some ⟨.int .u64, 1, 8, .int .u64 0⟩ := rfl
theorem tl140 : look TT 140 = some ⟨.int .u8, 1, 1, .int .u8 0⟩ := rfl
theorem tl141 : look TT 141 = some ⟨.int .u8, 1, 1, .int .u8 0⟩ := rfl
theorem tl144 : look TT 144 = some ⟨.int .i32, 1, 4, .int .i32 0⟩ := rfl
theorem tl145 : look TT 145 = some ⟨.int .i32, 1, 4, .int .i32 0⟩ := rfl
theorem tl1 : look TT 1 = some ⟨.func, 1, 8, .nilFunc⟩ := rfl
theorem tl7 : look TT 7 = some ⟨.struct [(0, 2), (1, 3), (2, 4), (3, 6)], 4, 24, .agg #[.int .i64 0, .int .i64 0, .bool false, .int .u8 0]⟩ := rfl
theorem tl8 : look TT 8 = some ⟨.struct [(0, 2), (1, 3), (2, 4), (3, 6)], 4, 24, .agg #[.int .i64 0, .int .i64 0, .bool false, .int .u8 0]⟩ := rfl
theorem tl9 : look TT 9 = some ⟨.str, 1, 16, .string ByteArray.empty⟩ := rfl
theorem tl10 : look TT 10 = some ⟨.str, 1, 16, .string ByteArray.empty⟩ := rfl
theorem tl11 : look TT 11 = some ⟨.str, 1, 16, .string ByteArray.empty⟩ := rfl
theorem tl13 : look TT 13 = some ⟨.struct [(0, 9), (1, 12)], 2, 24, .agg #[.string ByteArray.empty, .int .u64 0]⟩ := rfl
theorem tl14 : look TT 14 = some ⟨.struct [(0, 9), (1, 12)], 2, 24, .agg #[.string ByteArray.empty, .int .u64 0]⟩ := rfl
theorem tl15 : look TT 15 = some ⟨.ptr 136, 1, 8, .pointer none⟩ := rfl
theorem tl16 : look TT 16 = some ⟨.ptr 139, 1, 8, .pointer none⟩ := rfl
theorem tl17 : look TT 17 = some ⟨.ptr 147, 1, 8, .pointer none⟩ := rfl
theorem tl18 : look TT 18 = some ⟨.struct [(0, 17)], 1, 8, .agg #[.pointer none]⟩ := rfl
theorem tl19 : look TT 19 = some ⟨.struct [(0, 17)], 1, 8, .agg #[.pointer none]⟩ := rfl
theorem tl20 : look TT 20 = some ⟨.iface, 1, 16, .nilIface⟩ := rfl
theorem tl23 : look TT 23 = some ⟨.ptr 52, 1, 8, .pointer none⟩ := rfl
theorem tl26 : look TT 26 = some ⟨.func, 1, 8, .nilFunc⟩ := rfl
theorem tl27 : look TT 27 = some ⟨.func, 1, 8, .nilFunc⟩ := rfl
theorem tl29 : look TT 29 = some ⟨.func, 1, 8, .nilFunc⟩ := rfl
theorem tl30 : look TT 30 = some ⟨.func, 1, 8, .nilFunc⟩ := rfl
theorem tl31 : look TT 31 = some ⟨.func, 1, 8, .nilFunc⟩ := rfl
theorem tl32 : look TT 32 = some ⟨.func, 1, 8, .nilFunc⟩ := rfl
theorem tl34 : look TT 34 = some ⟨.func, 1, 8, .nilFunc⟩ := rfl
theorem tl35 : look TT 35 = some ⟨.func, 1, 8, .nilFunc⟩ := rfl
theorem tl37 : look TT 37 = some ⟨.func, 1, 8, .nilFunc⟩ := rfl
theorem tl38 : look TT 38 = some ⟨.func, 1, 8, .nilFunc⟩ := rfl
theorem tl39 : look TT 39 = some ⟨.func, 1, 8, .nilFunc⟩ := rfl
theorem tl41 : look TT 41 = some ⟨.func, 1, 8, .nilFunc⟩ := rfl
theorem tl42 : look TT 42 = some ⟨.ptr 71, 1, 8, .pointer none⟩ := rfl
theorem tl44 : look TT 44 = some ⟨.func, 1, 8, .nilFunc⟩ := rfl
theorem tl45 : look TT 45 = some ⟨.func, 1, 8, .nilFunc⟩ := rfl
theorem tl46 : look TT 46 = some ⟨.struct [(0, 3), (1, 3), (2, 9), (3, 22), (4, 5)], 5, 64, .agg #[.int .i64 0, .int .i64 0, .string ByteArray.empty, .slice none 0 0, .int .u8 0]⟩ := rfl
theorem tl47 : look TT 47 = some ⟨.struct [(0, 3), (1, 3), (2, 9), (3, 22), (4, 5)], 5, 64, .agg #[.int .i64 0, .int .i64 0, .string ByteArray.empty, .slice none 0 0, .int .u8 0]⟩ := rfl
theorem tl48 : look TT 48 = some ⟨.func, 1, 8, .nilFunc⟩ := rfl
theorem tl49 : look TT 49 = some ⟨.func, 1, 8, .nilFunc⟩ := rfl
theorem tl50 : look TT 50 = some ⟨.map 9 65, 1, 8, .map none⟩ := rfl
theorem tl51 : look TT 51 = some ⟨.struct [(0, 3), (1, 3), (2, 50)], 3, 24, .agg #[.int .i64 0, .int .i64 0, .map none]⟩ := rfl
theorem tl52 : look TT 52 = some ⟨.struct [(0, 3), (1, 3), (2, 50)], 3, 24, .agg #[.int .i64 0, .int .i64 0, .map none]⟩ := rfl
theorem tl53 : look TT 53 = some ⟨.func, 1, 8, .nilFunc⟩ := rfl
theorem tl54 : look TT 54 = some ⟨.func, 1, 8, .nilFunc⟩ := rfl
theorem tl55 : look TT 55 = some ⟨.func, 1, 8, .nilFunc⟩ := rfl
theorem tl56 : look TT 56 = some ⟨.func, 1, 8, .nilFunc⟩ := rfl
theorem tl57 : look TT 57 = some ⟨.func, 1, 8, .nilFunc⟩ := rfl
theorem tl59 : look TT 59 = some ⟨.func, 1, 8, .nilFunc⟩ := rfl
theorem tl61 : look TT 61 = some ⟨.func, 1, 8, .nilFunc⟩ := rfl
theorem tl63 : look TT 63 = some ⟨.func, 1, 8, .nilFunc⟩ := rfl
theorem tl64 : look TT 64 = some ⟨.struct [(0, 22), (1, 3)], 2, 32, .agg #[.slice none 0 0, .int .i64 0]⟩ := rfl
theorem tl65 : look TT 65 = some ⟨.struct [(0, 22), (1, 3)], 2, 32, .agg #[.slice none 0 0, .int .i64 0]⟩ := rfl
theorem tl66 : look TT 66 = some ⟨.func, 1, 8, .nilFunc⟩ := rfl
theorem tl68 : look TT 68 = some ⟨.func, 1, 8, .nilFunc⟩ := rfl
theorem tl70 : look TT 70 = some ⟨.struct [(0, 3), (1, 69)], 2, 32, .agg #[.int .i64 0, .slice none 0 0]⟩ := rfl
theorem tl71 : look TT 71 = some ⟨.struct [(0, 3), (1, 69)], 2, 32, .agg #[.int .i64 0, .slice none 0 0]⟩ := rfl
theorem tl72 : look TT 72 = some ⟨.func, 1, 8, .nilFunc⟩ := rfl
theorem tl73 : look TT 73 = some ⟨.func, 1, 8, .nilFunc⟩ := rfl
theorem tl75 : look TT 75 = some ⟨.func, 1, 8, .nilFunc⟩ := rfl
theorem tl76 : look TT 76 = some ⟨.func, 1, 8, .nilFunc⟩ := rfl
theorem tl77 : look TT 77 = some ⟨.func, 1, 8, .nilFunc⟩ := rfl
theorem tl78 : look TT 78 = some ⟨.func, 1, 8, .nilFunc⟩ := rfl
theorem tl79 : look TT 79 = some ⟨.func, 1, 8, .nilFunc⟩ := rfl
theorem tl80 : look TT 80 = some ⟨.func, 1, 8, .nilFunc⟩ := rfl
theorem tl81 : look TT 81 = some ⟨.struct [(0, 9), (1, 22), (2, 3)], 3, 48, .agg #[.string ByteArray.empty, .slice none 0 0, .int .i64 0]⟩ := rfl
theorem tl82 : look TT 82 = some ⟨.struct [(0, 9), (1, 22), (2, 3)], 3, 48, .agg #[.string ByteArray.empty, .slice none 0 0, .int .i64 0]⟩ := rfl
theorem tl83 : look TT 83 = some ⟨.func, 1, 8, .nilFunc⟩ := rfl
theorem tl85 : look TT 85 = some ⟨.func, 1, 8, .nilFunc⟩ := rfl
theorem tl86 : look TT 86 = some ⟨.func, 1, 8, .nilFunc⟩ := rfl
theorem tl88 : look TT 88 = some ⟨.func, 1, 8, .nilFunc⟩ := rfl
theorem tl89 : look TT 89 = some ⟨.func, 1, 8, .nilFunc⟩ := rfl
theorem tl90 : look TT 90 = some ⟨.func, 1, 8, .nilFunc⟩ := rfl
theorem tl91 : look TT 91 = some ⟨.func, 1, 8, .nilFunc⟩ := rfl
theorem tl92 : look TT 92 = some ⟨.func, 1, 8, .nilFunc⟩ := rfl
theorem tl93 : look TT 93 = some ⟨.func, 1, 8, .nilFunc⟩ := rfl
theorem tl94 : look TT 94 = some ⟨.func, 1, 8, .nilFunc⟩ := rfl
theorem tl95 : look TT 95 = some ⟨.func, 1, 8, .nilFunc⟩ := rfl
theorem tl96 : look TT 96 = some ⟨.func, 1, 8, .nilFunc⟩ := rfl
theorem tl98 : look TT 98 = some ⟨.func, 1, 8, .nilFunc⟩ := rfl
theorem tl99 : look TT 99 = some ⟨.func, 1, 8, .nilFunc⟩ := rfl
theorem tl100 : look TT 100 = some ⟨.func, 1, 8, .nilFunc⟩ := rfl
theorem tl101 : look TT 101 = some ⟨.func, 1, 8, .nilFunc⟩ := rfl
theorem tl102 : look TT 102 = some ⟨.func, 1, 8, .nilFunc⟩ := rfl
theorem tl103 : look TT 103 = some ⟨.func, 1, 8, .nilFunc⟩ := rfl
theorem tl106 : look TT 106 = some ⟨.array 16 84, 16, 64, .agg #[.int .u32 0, .int .u32 0, .int .u32 0, .int .u32 0, .int .u32 0, .int .u32 0, .int .u32 0, .int .u32 0, .int .u32 0, .int .u32 0, .int .u32 0, .int .u32 0, .int .u32 0, .int .u32 0, .int .u32 0, .int .u32 0]⟩ := rfl
theorem tl107 : look TT 107 = some ⟨.func, 1, 8, .nilFunc⟩ := rfl
theorem tl109 : look TT 109 = some ⟨.func, 1, 8, .nilFunc⟩ := rfl
theorem tl110 : look TT 110 = some ⟨.func, 1, 8, .nilFunc⟩ := rfl
theorem tl111 : look TT 111 = some ⟨.func, 1, 8, .nilFunc⟩ := rfl
theorem tl112 : look TT 112 = some ⟨.func, 1, 8, .nilFunc⟩ := rfl
theorem tl113 : look TT 113 = some ⟨.func, 1, 8, .nilFunc⟩ := rfl
theorem tl114 : look TT 114 = some ⟨.func, 1, 8, .nilFunc⟩ := rfl
theorem tl115 : look TT 115 = some ⟨.func, 1, 8, .nilFunc⟩ := rfl
theorem tl118 : look TT 118 = some ⟨.func, 1, 8, .nilFunc⟩ := rfl
theorem tl119 : look TT 119 = some ⟨.func, 1, 8, .nilFunc⟩ := rfl
theorem tl120 : look TT 120 = some ⟨.func, 1, 8, .nilFunc⟩ := rfl
theorem tl121 : look TT 121 = some ⟨.func, 1, 8, .nilFunc⟩ := rfl
theorem tl122 : look TT 122 = some ⟨.func, 1, 8, .nilFunc⟩ := rfl
theorem tl123 : look TT 123 = some ⟨.func, 1, 8, .nilFunc⟩ := rfl
theorem tl124 : look TT 124 = some ⟨.func, 1, 8, .nilFunc⟩ := rfl
theorem tl126 : look TT 126 = some ⟨.func, 1, 8, .nilFunc⟩ := rfl
theorem tl127 : look TT 127 = some ⟨.func, 1, 8, .nilFunc⟩ := rfl
theorem tl128 : look TT 128 = some ⟨.func, 1, 8, .nilFunc⟩ := rfl
theorem tl129 : look TT 129 = some ⟨.ptr 3, 1, 8, .pointer none⟩ := rfl
theorem tl130 : look TT 130 = some ⟨.func, 1, 8, .nilFunc⟩ := rfl
theorem tl131 : look TT 131 = some ⟨.ptr 125, 1, 8, .pointer none⟩ := rfl
theorem tl133 : look TT 133 = some ⟨.func, 1, 8, .nilFunc⟩ := rfl
theorem tl134 : look TT 134 = some ⟨.func, 1, 8, .nilFunc⟩ := rfl
theorem tl135 : look TT 135 = some ⟨.struct [(0, 17), (1, 17), (2, 17), (3, 9)], 4, 40, .agg #[.pointer none, .pointer none, .pointer none, .string ByteArray.empty]⟩ := rfl
theorem tl136 : look TT 136 = some ⟨.struct [(0, 17), (1, 17), (2, 17), (3, 9)], 4, 40, .agg #[.pointer none, .pointer none, .pointer none, .string ByteArray.empty]⟩ := rfl
theorem tl137 : look TT 137 = some ⟨.array 0 16, 0, 0, .agg #[]⟩ := rfl
theorem tl138 : look TT 138 = some ⟨.struct [(0, 137)], 0, 0, .agg #[]⟩ := rfl
theorem tl139 : look TT 139 = some ⟨.struct [(0, 137)], 0, 0, .agg #[]⟩ := rfl
theorem tl142 : look TT 142 = some ⟨.func, 1, 8, .nilFunc⟩ := rfl
theorem tl143 : look TT 143 = some ⟨.ptr 5, 1, 8, .pointer none⟩ := rfl
theorem tl146 : look TT 146 = some ⟨.struct [(0, 12), (1, 12), (2, 84), (3, 140), (4, 5), (5, 5), (6, 141), (7, 142), (8, 143), (9, 144), (10, 145)], 11, 48, .agg #[.int .u64 0, .int .u64 0, .int .u32 0, .int .u8 0, .int .u8 0, .int .u8 0, .int .u8 0, .nilFunc, .pointer none, .int .i32 0, .int .i32 0]⟩ := rfl
theorem tl147 : look TT 147 = some ⟨.struct [(0, 12), (1, 12), (2, 84), (3, 140), (4, 5), (5, 5), (6, 141), (7, 142), (8, 143), (9, 144), (10, 145)], 11, 48, .agg #[.int .u64 0, .int .u64 0, .int .u32 0, .int .u8 0, .int .u8 0, .int .u8 0, .int .u8 0, .nilFunc, .pointer none, .int .i32 0, .int .i32 0]⟩ := rfl
theorem mixed : Try.prog.follows .mixedOrders = true := by kernel_rfl
end Go.Proofs.Ytjgiailgidbkmaa
