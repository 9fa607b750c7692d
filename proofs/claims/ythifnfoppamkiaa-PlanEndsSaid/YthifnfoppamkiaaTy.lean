/- The table of this translation's types, printed by gen_types.py. Nothing is claimed here. -/
import Derived.Test.YthifnfoppamkiaaVV
import Derived.Test.YthifnfoppamkiaaChecked
namespace Go.Proofs.Ythifnfoppamkiaa
theorem ty2 : TdOk Try.prog 2 ⟨.int .i64, 1, 8, .int .i64 0⟩ := ⟨by kernel_rfl, by kernel_rfl⟩
theorem ty3 : TdOk Try.prog 3 ⟨.int .i64, 1, 8, .int .i64 0⟩ := ⟨by kernel_rfl, by kernel_rfl⟩
theorem ty4 : TdOk Try.prog 4 ⟨.bool, 1, 1, .bool false⟩ := ⟨by kernel_rfl, by kernel_rfl⟩
theorem ty5 : TdOk Try.prog 5 ⟨.int .u8, 1, 1, .int .u8 0⟩ := ⟨by kernel_rfl, by kernel_rfl⟩
theorem ty6 : TdOk Try.prog 6 ⟨.int .u8, 1, 1, .int .u8 0⟩ := ⟨by kernel_rfl, by kernel_rfl⟩
theorem ty12 : TdOk Try.prog 12 ⟨.int .u64, 1, 8, .int .u64 0⟩ := ⟨by kernel_rfl, by kernel_rfl⟩
theorem ty21 : TdOk Try.prog 21 ⟨.int .i32, 1, 4, .int .i32 0⟩ := ⟨by kernel_rfl, by kernel_rfl⟩
theorem ty22 : TdOk Try.prog 22 ⟨.slice 30, 1, 24, .slice none 0 0⟩ := ⟨by kernel_rfl, by kernel_rfl⟩
theorem ty23 : TdOk Try.prog 23 ⟨.slice 4, 1, 24, .slice none 0 0⟩ := ⟨by kernel_rfl, by kernel_rfl⟩
theorem ty24 : TdOk Try.prog 24 ⟨.slice 3, 1, 24, .slice none 0 0⟩ := ⟨by kernel_rfl, by kernel_rfl⟩
theorem ty38 : TdOk Try.prog 38 ⟨.slice 24, 1, 24, .slice none 0 0⟩ := ⟨by kernel_rfl, by kernel_rfl⟩
theorem ty41 : TdOk Try.prog 41 ⟨.int .i64, 1, 8, .int .i64 0⟩ := ⟨by kernel_rfl, by kernel_rfl⟩
theorem ty48 : TdOk Try.prog 48 ⟨.slice 65, 1, 24, .slice none 0 0⟩ := ⟨by kernel_rfl, by kernel_rfl⟩
theorem ty57 : TdOk Try.prog 57 ⟨.slice 56, 1, 24, .slice none 0 0⟩ := ⟨by kernel_rfl, by kernel_rfl⟩
theorem ty65 : TdOk Try.prog 65 ⟨.slice 5, 1, 24, .slice none 0 0⟩ := ⟨by kernel_rfl, by kernel_rfl⟩
theorem ty78 : TdOk Try.prog 78 ⟨.int .u64, 1, 8, .int .u64 0⟩ := ⟨by kernel_rfl, by kernel_rfl⟩
theorem ty81 : TdOk Try.prog 81 ⟨.int .u64, 1, 8, .int .u64 0⟩ := ⟨by kernel_rfl, by kernel_rfl⟩
theorem ty84 : TdOk Try.prog 84 ⟨.int .i64, 1, 8, .int .i64 0⟩ := ⟨by kernel_rfl, by kernel_rfl⟩
theorem ty92 : TdOk Try.prog 92 ⟨.int .u32, 1, 4, .int .u32 0⟩ := ⟨by kernel_rfl, by kernel_rfl⟩
theorem ty94 : TdOk Try.prog 94 ⟨.int .u64, 1, 8, .int .u64 0⟩ := ⟨by kernel_rfl, by kernel_rfl⟩
theorem ty110 : TdOk Try.prog 110 ⟨.int .u8, 1, 1, .int .u8 0⟩ := ⟨by kernel_rfl, by kernel_rfl⟩
theorem ty111 : TdOk Try.prog 111 ⟨.int .u8, 1, 1, .int .u8 0⟩ := ⟨by kernel_rfl, by kernel_rfl⟩
theorem ty114 : TdOk Try.prog 114 ⟨.int .i32, 1, 4, .int .i32 0⟩ := ⟨by kernel_rfl, by kernel_rfl⟩
theorem ty115 : TdOk Try.prog 115 ⟨.int .i32, 1, 4, .int .i32 0⟩ := ⟨by kernel_rfl, by kernel_rfl⟩
theorem ty1 : TdOk Try.prog 1 ⟨.func, 1, 8, .nilFunc⟩ := ⟨by kernel_rfl, by kernel_rfl⟩
theorem ty7 : TdOk Try.prog 7 ⟨.struct [(0, 2), (1, 3), (2, 4), (3, 6)], 4, 24, .agg #[.int .i64 0, .int .i64 0, .bool false, .int .u8 0]⟩ := ⟨by kernel_rfl, by kernel_rfl⟩
theorem ty8 : TdOk Try.prog 8 ⟨.struct [(0, 2), (1, 3), (2, 4), (3, 6)], 4, 24, .agg #[.int .i64 0, .int .i64 0, .bool false, .int .u8 0]⟩ := ⟨by kernel_rfl, by kernel_rfl⟩
theorem ty9 : TdOk Try.prog 9 ⟨.str, 1, 16, .string ByteArray.empty⟩ := ⟨by kernel_rfl, by kernel_rfl⟩
theorem ty10 : TdOk Try.prog 10 ⟨.str, 1, 16, .string ByteArray.empty⟩ := ⟨by kernel_rfl, by kernel_rfl⟩
theorem ty11 : TdOk Try.prog 11 ⟨.str, 1, 16, .string ByteArray.empty⟩ := ⟨by kernel_rfl, by kernel_rfl⟩
theorem ty13 : TdOk Try.prog 13 ⟨.struct [(0, 9), (1, 12)], 2, 24, .agg #[.string ByteArray.empty, .int .u64 0]⟩ := ⟨by kernel_rfl, by kernel_rfl⟩
theorem ty14 : TdOk Try.prog 14 ⟨.struct [(0, 9), (1, 12)], 2, 24, .agg #[.string ByteArray.empty, .int .u64 0]⟩ := ⟨by kernel_rfl, by kernel_rfl⟩
theorem ty15 : TdOk Try.prog 15 ⟨.ptr 105, 1, 8, .pointer none⟩ := ⟨by kernel_rfl, by kernel_rfl⟩
theorem ty16 : TdOk Try.prog 16 ⟨.ptr 108, 1, 8, .pointer none⟩ := ⟨by kernel_rfl, by kernel_rfl⟩
theorem ty17 : TdOk Try.prog 17 ⟨.ptr 117, 1, 8, .pointer none⟩ := ⟨by kernel_rfl, by kernel_rfl⟩
theorem ty18 : TdOk Try.prog 18 ⟨.struct [(0, 17)], 1, 8, .agg #[.pointer none]⟩ := ⟨by kernel_rfl, by kernel_rfl⟩
theorem ty19 : TdOk Try.prog 19 ⟨.struct [(0, 17)], 1, 8, .agg #[.pointer none]⟩ := ⟨by kernel_rfl, by kernel_rfl⟩
theorem ty20 : TdOk Try.prog 20 ⟨.iface, 1, 16, .nilIface⟩ := ⟨by kernel_rfl, by kernel_rfl⟩
theorem ty25 : TdOk Try.prog 25 ⟨.struct [(0, 3), (1, 3), (2, 3), (3, 3), (4, 3), (5, 3), (6, 3)], 7, 56, .agg #[.int .i64 0, .int .i64 0, .int .i64 0, .int .i64 0, .int .i64 0, .int .i64 0, .int .i64 0]⟩ := ⟨by kernel_rfl, by kernel_rfl⟩
theorem ty26 : TdOk Try.prog 26 ⟨.struct [(0, 3), (1, 3), (2, 3), (3, 3), (4, 3), (5, 3), (6, 3)], 7, 56, .agg #[.int .i64 0, .int .i64 0, .int .i64 0, .int .i64 0, .int .i64 0, .int .i64 0, .int .i64 0]⟩ := ⟨by kernel_rfl, by kernel_rfl⟩
theorem ty27 : TdOk Try.prog 27 ⟨.func, 1, 8, .nilFunc⟩ := ⟨by kernel_rfl, by kernel_rfl⟩
theorem ty28 : TdOk Try.prog 28 ⟨.func, 1, 8, .nilFunc⟩ := ⟨by kernel_rfl, by kernel_rfl⟩
theorem ty29 : TdOk Try.prog 29 ⟨.struct [(0, 3), (1, 3), (2, 3), (3, 24), (4, 4), (5, 3)], 6, 64, .agg #[.int .i64 0, .int .i64 0, .int .i64 0, .slice none 0 0, .bool false, .int .i64 0]⟩ := ⟨by kernel_rfl, by kernel_rfl⟩
theorem ty30 : TdOk Try.prog 30 ⟨.struct [(0, 3), (1, 3), (2, 3), (3, 24), (4, 4), (5, 3)], 6, 64, .agg #[.int .i64 0, .int .i64 0, .int .i64 0, .slice none 0 0, .bool false, .int .i64 0]⟩ := ⟨by kernel_rfl, by kernel_rfl⟩
theorem ty31 : TdOk Try.prog 31 ⟨.struct [(0, 3), (1, 3), (2, 3), (3, 24), (4, 24)], 5, 72, .agg #[.int .i64 0, .int .i64 0, .int .i64 0, .slice none 0 0, .slice none 0 0]⟩ := ⟨by kernel_rfl, by kernel_rfl⟩
theorem ty32 : TdOk Try.prog 32 ⟨.struct [(0, 3), (1, 3), (2, 3), (3, 24), (4, 24)], 5, 72, .agg #[.int .i64 0, .int .i64 0, .int .i64 0, .slice none 0 0, .slice none 0 0]⟩ := ⟨by kernel_rfl, by kernel_rfl⟩
theorem ty34 : TdOk Try.prog 34 ⟨.func, 1, 8, .nilFunc⟩ := ⟨by kernel_rfl, by kernel_rfl⟩
theorem ty35 : TdOk Try.prog 35 ⟨.func, 1, 8, .nilFunc⟩ := ⟨by kernel_rfl, by kernel_rfl⟩
theorem ty36 : TdOk Try.prog 36 ⟨.func, 1, 8, .nilFunc⟩ := ⟨by kernel_rfl, by kernel_rfl⟩
theorem ty37 : TdOk Try.prog 37 ⟨.func, 1, 8, .nilFunc⟩ := ⟨by kernel_rfl, by kernel_rfl⟩
theorem ty39 : TdOk Try.prog 39 ⟨.func, 1, 8, .nilFunc⟩ := ⟨by kernel_rfl, by kernel_rfl⟩
theorem ty40 : TdOk Try.prog 40 ⟨.func, 1, 8, .nilFunc⟩ := ⟨by kernel_rfl, by kernel_rfl⟩
theorem ty43 : TdOk Try.prog 43 ⟨.func, 1, 8, .nilFunc⟩ := ⟨by kernel_rfl, by kernel_rfl⟩
theorem ty45 : TdOk Try.prog 45 ⟨.func, 1, 8, .nilFunc⟩ := ⟨by kernel_rfl, by kernel_rfl⟩
theorem ty46 : TdOk Try.prog 46 ⟨.func, 1, 8, .nilFunc⟩ := ⟨by kernel_rfl, by kernel_rfl⟩
theorem ty47 : TdOk Try.prog 47 ⟨.func, 1, 8, .nilFunc⟩ := ⟨by kernel_rfl, by kernel_rfl⟩
theorem ty50 : TdOk Try.prog 50 ⟨.func, 1, 8, .nilFunc⟩ := ⟨by kernel_rfl, by kernel_rfl⟩
theorem ty51 : TdOk Try.prog 51 ⟨.ptr 55, 1, 8, .pointer none⟩ := ⟨by kernel_rfl, by kernel_rfl⟩
theorem ty52 : TdOk Try.prog 52 ⟨.array 64 3, 64, 512, .agg #[.int .i64 0, .int .i64 0, .int .i64 0, .int .i64 0, .int .i64 0, .int .i64 0, .int .i64 0, .int .i64 0, .int .i64 0, .int .i64 0, .int .i64 0, .int .i64 0, .int .i64 0, .int .i64 0, .int .i64 0, .int .i64 0, .int .i64 0, .int .i64 0, .int .i64 0, .int .i64 0, .int .i64 0, .int .i64 0, .int .i64 0, .int .i64 0, .int .i64 0, .int .i64 0, .int .i64 0, .int .i64 0, .int .i64 0, .int .i64 0, .int .i64 0, .int .i64 0, .int .i64 0, .int .i64 0, .int .i64 0, .int .i64 0, .int .i64 0, .int .i64 0, .int .i64 0, .int .i64 0, .int .i64 0, .int .i64 0, .int .i64 0, .int .i64 0, .int .i64 0, .int .i64 0, .int .i64 0, .int .i64 0, .int .i64 0, .int .i64 0, .int .i64 0, .int .i64 0, .int .i64 0, .int .i64 0, .int .i64 0, .int .i64 0, .int .i64 0, .int .i64 0, .int .i64 0, .int .i64 0, .int .i64 0, .int .i64 0, .int .i64 0, .int .i64 0]⟩ := ⟨by kernel_rfl, by kernel_rfl⟩
theorem ty53 : TdOk Try.prog 53 ⟨.func, 1, 8, .nilFunc⟩ := ⟨by kernel_rfl, by kernel_rfl⟩
theorem ty54 : TdOk Try.prog 54 ⟨.struct [(0, 22), (1, 23), (2, 52), (66, 24), (67, 26)], 74, 640, .agg #[.slice none 0 0, .slice none 0 0, .int .i64 0, .int .i64 0, .int .i64 0, .int .i64 0, .int .i64 0, .int .i64 0, .int .i64 0, .int .i64 0, .int .i64 0, .int .i64 0, .int .i64 0, .int .i64 0, .int .i64 0, .int .i64 0, .int .i64 0, .int .i64 0, .int .i64 0, .int .i64 0, .int .i64 0, .int .i64 0, .int .i64 0, .int .i64 0, .int .i64 0, .int .i64 0, .int .i64 0, .int .i64 0, .int .i64 0, .int .i64 0, .int .i64 0, .int .i64 0, .int .i64 0, .int .i64 0, .int .i64 0, .int .i64 0, .int .i64 0, .int .i64 0, .int .i64 0, .int .i64 0, .int .i64 0, .int .i64 0, .int .i64 0, .int .i64 0, .int .i64 0, .int .i64 0, .int .i64 0, .int .i64 0, .int .i64 0, .int .i64 0, .int .i64 0, .int .i64 0, .int .i64 0, .int .i64 0, .int .i64 0, .int .i64 0, .int .i64 0, .int .i64 0, .int .i64 0, .int .i64 0, .int .i64 0, .int .i64 0, .int .i64 0, .int .i64 0, .int .i64 0, .int .i64 0, .slice none 0 0, .int .i64 0, .int .i64 0, .int .i64 0, .int .i64 0, .int .i64 0, .int .i64 0, .int .i64 0]⟩ := ⟨by kernel_rfl, by kernel_rfl⟩
theorem ty55 : TdOk Try.prog 55 ⟨.struct [(0, 22), (1, 23), (2, 52), (66, 24), (67, 26)], 74, 640, .agg #[.slice none 0 0, .slice none 0 0, .int .i64 0, .int .i64 0, .int .i64 0, .int .i64 0, .int .i64 0, .int .i64 0, .int .i64 0, .int .i64 0, .int .i64 0, .int .i64 0, .int .i64 0, .int .i64 0, .int .i64 0, .int .i64 0, .int .i64 0, .int .i64 0, .int .i64 0, .int .i64 0, .int .i64 0, .int .i64 0, .int .i64 0, .int .i64 0, .int .i64 0, .int .i64 0, .int .i64 0, .int .i64 0, .int .i64 0, .int .i64 0, .int .i64 0, .int .i64 0, .int .i64 0, .int .i64 0, .int .i64 0, .int .i64 0, .int .i64 0, .int .i64 0, .int .i64 0, .int .i64 0, .int .i64 0, .int .i64 0, .int .i64 0, .int .i64 0, .int .i64 0, .int .i64 0, .int .i64 0, .int .i64 0, .int .i64 0, .int .i64 0, .int .i64 0, .int .i64 0, .int .i64 0, .int .i64 0, .int .i64 0, .int .i64 0, .int .i64 0, .int .i64 0, .int .i64 0, .int .i64 0, .int .i64 0, .int .i64 0, .int .i64 0, .int .i64 0, .int .i64 0, .int .i64 0, .slice none 0 0, .int .i64 0, .int .i64 0, .int .i64 0, .int .i64 0, .int .i64 0, .int .i64 0, .int .i64 0]⟩ := ⟨by kernel_rfl, by kernel_rfl⟩
theorem ty56 : TdOk Try.prog 56 ⟨.func, 1, 8, .nilFunc⟩ := ⟨by kernel_rfl, by kernel_rfl⟩
theorem ty58 : TdOk Try.prog 58 ⟨.func, 1, 8, .nilFunc⟩ := ⟨by kernel_rfl, by kernel_rfl⟩
theorem ty59 : TdOk Try.prog 59 ⟨.func, 1, 8, .nilFunc⟩ := ⟨by kernel_rfl, by kernel_rfl⟩
theorem ty60 : TdOk Try.prog 60 ⟨.func, 1, 8, .nilFunc⟩ := ⟨by kernel_rfl, by kernel_rfl⟩
theorem ty61 : TdOk Try.prog 61 ⟨.func, 1, 8, .nilFunc⟩ := ⟨by kernel_rfl, by kernel_rfl⟩
theorem ty62 : TdOk Try.prog 62 ⟨.func, 1, 8, .nilFunc⟩ := ⟨by kernel_rfl, by kernel_rfl⟩
theorem ty63 : TdOk Try.prog 63 ⟨.func, 1, 8, .nilFunc⟩ := ⟨by kernel_rfl, by kernel_rfl⟩
theorem ty64 : TdOk Try.prog 64 ⟨.func, 1, 8, .nilFunc⟩ := ⟨by kernel_rfl, by kernel_rfl⟩
theorem ty67 : TdOk Try.prog 67 ⟨.func, 1, 8, .nilFunc⟩ := ⟨by kernel_rfl, by kernel_rfl⟩
theorem ty68 : TdOk Try.prog 68 ⟨.func, 1, 8, .nilFunc⟩ := ⟨by kernel_rfl, by kernel_rfl⟩
theorem ty69 : TdOk Try.prog 69 ⟨.func, 1, 8, .nilFunc⟩ := ⟨by kernel_rfl, by kernel_rfl⟩
theorem ty70 : TdOk Try.prog 70 ⟨.func, 1, 8, .nilFunc⟩ := ⟨by kernel_rfl, by kernel_rfl⟩
theorem ty71 : TdOk Try.prog 71 ⟨.func, 1, 8, .nilFunc⟩ := ⟨by kernel_rfl, by kernel_rfl⟩
theorem ty72 : TdOk Try.prog 72 ⟨.func, 1, 8, .nilFunc⟩ := ⟨by kernel_rfl, by kernel_rfl⟩
theorem ty73 : TdOk Try.prog 73 ⟨.func, 1, 8, .nilFunc⟩ := ⟨by kernel_rfl, by kernel_rfl⟩
theorem ty74 : TdOk Try.prog 74 ⟨.func, 1, 8, .nilFunc⟩ := ⟨by kernel_rfl, by kernel_rfl⟩
theorem ty75 : TdOk Try.prog 75 ⟨.func, 1, 8, .nilFunc⟩ := ⟨by kernel_rfl, by kernel_rfl⟩
theorem ty76 : TdOk Try.prog 76 ⟨.func, 1, 8, .nilFunc⟩ := ⟨by kernel_rfl, by kernel_rfl⟩
theorem ty77 : TdOk Try.prog 77 ⟨.func, 1, 8, .nilFunc⟩ := ⟨by kernel_rfl, by kernel_rfl⟩
theorem ty79 : TdOk Try.prog 79 ⟨.func, 1, 8, .nilFunc⟩ := ⟨by kernel_rfl, by kernel_rfl⟩
theorem ty80 : TdOk Try.prog 80 ⟨.func, 1, 8, .nilFunc⟩ := ⟨by kernel_rfl, by kernel_rfl⟩
theorem ty82 : TdOk Try.prog 82 ⟨.func, 1, 8, .nilFunc⟩ := ⟨by kernel_rfl, by kernel_rfl⟩
theorem ty83 : TdOk Try.prog 83 ⟨.func, 1, 8, .nilFunc⟩ := ⟨by kernel_rfl, by kernel_rfl⟩
theorem ty86 : TdOk Try.prog 86 ⟨.func, 1, 8, .nilFunc⟩ := ⟨by kernel_rfl, by kernel_rfl⟩
theorem ty87 : TdOk Try.prog 87 ⟨.func, 1, 8, .nilFunc⟩ := ⟨by kernel_rfl, by kernel_rfl⟩
theorem ty88 : TdOk Try.prog 88 ⟨.func, 1, 8, .nilFunc⟩ := ⟨by kernel_rfl, by kernel_rfl⟩
theorem ty90 : TdOk Try.prog 90 ⟨.func, 1, 8, .nilFunc⟩ := ⟨by kernel_rfl, by kernel_rfl⟩
theorem ty91 : TdOk Try.prog 91 ⟨.func, 1, 8, .nilFunc⟩ := ⟨by kernel_rfl, by kernel_rfl⟩
theorem ty93 : TdOk Try.prog 93 ⟨.func, 1, 8, .nilFunc⟩ := ⟨by kernel_rfl, by kernel_rfl⟩
theorem ty95 : TdOk Try.prog 95 ⟨.func, 1, 8, .nilFunc⟩ := ⟨by kernel_rfl, by kernel_rfl⟩
theorem ty96 : TdOk Try.prog 96 ⟨.func, 1, 8, .nilFunc⟩ := ⟨by kernel_rfl, by kernel_rfl⟩
theorem ty97 : TdOk Try.prog 97 ⟨.func, 1, 8, .nilFunc⟩ := ⟨by kernel_rfl, by kernel_rfl⟩
theorem ty98 : TdOk Try.prog 98 ⟨.ptr 3, 1, 8, .pointer none⟩ := ⟨by kernel_rfl, by kernel_rfl⟩
theorem ty99 : TdOk Try.prog 99 ⟨.func, 1, 8, .nilFunc⟩ := ⟨by kernel_rfl, by kernel_rfl⟩
theorem ty100 : TdOk Try.prog 100 ⟨.ptr 94, 1, 8, .pointer none⟩ := ⟨by kernel_rfl, by kernel_rfl⟩
theorem ty102 : TdOk Try.prog 102 ⟨.func, 1, 8, .nilFunc⟩ := ⟨by kernel_rfl, by kernel_rfl⟩
theorem ty103 : TdOk Try.prog 103 ⟨.func, 1, 8, .nilFunc⟩ := ⟨by kernel_rfl, by kernel_rfl⟩
theorem ty104 : TdOk Try.prog 104 ⟨.struct [(0, 17), (1, 17), (2, 17), (3, 9)], 4, 40, .agg #[.pointer none, .pointer none, .pointer none, .string ByteArray.empty]⟩ := ⟨by kernel_rfl, by kernel_rfl⟩
theorem ty105 : TdOk Try.prog 105 ⟨.struct [(0, 17), (1, 17), (2, 17), (3, 9)], 4, 40, .agg #[.pointer none, .pointer none, .pointer none, .string ByteArray.empty]⟩ := ⟨by kernel_rfl, by kernel_rfl⟩
theorem ty106 : TdOk Try.prog 106 ⟨.array 0 16, 0, 0, .agg #[]⟩ := ⟨by kernel_rfl, by kernel_rfl⟩
theorem ty107 : TdOk Try.prog 107 ⟨.struct [(0, 106)], 0, 0, .agg #[]⟩ := ⟨by kernel_rfl, by kernel_rfl⟩
theorem ty108 : TdOk Try.prog 108 ⟨.struct [(0, 106)], 0, 0, .agg #[]⟩ := ⟨by kernel_rfl, by kernel_rfl⟩
theorem ty109 : TdOk Try.prog 109 ⟨.func, 1, 8, .nilFunc⟩ := ⟨by kernel_rfl, by kernel_rfl⟩
theorem ty112 : TdOk Try.prog 112 ⟨.func, 1, 8, .nilFunc⟩ := ⟨by kernel_rfl, by kernel_rfl⟩
theorem ty113 : TdOk Try.prog 113 ⟨.ptr 5, 1, 8, .pointer none⟩ := ⟨by kernel_rfl, by kernel_rfl⟩
theorem ty116 : TdOk Try.prog 116 ⟨.struct [(0, 12), (1, 12), (2, 92), (3, 110), (4, 5), (5, 5), (6, 111), (7, 112), (8, 113), (9, 114), (10, 115)], 11, 48, .agg #[.int .u64 0, .int .u64 0, .int .u32 0, .int .u8 0, .int .u8 0, .int .u8 0, .int .u8 0, .nilFunc, .pointer none, .int .i32 0, .int .i32 0]⟩ := ⟨by kernel_rfl, by kernel_rfl⟩
theorem ty117 : TdOk Try.prog 117 ⟨.struct [(0, 12), (1, 12), (2, 92), (3, 110), (4, 5), (5, 5), (6, 111), (7, 112), (8, 113), (9, 114), (10, 115)], 11, 48, .agg #[.int .u64 0, .int .u64 0, .int .u32 0, .int .u8 0, .int .u8 0, .int .u8 0, .int .u8 0, .nilFunc, .pointer none, .int .i32 0, .int .i32 0]⟩ := ⟨by kernel_rfl, by kernel_rfl⟩
def TT : Tab := [(2, ⟨.int .i64, 1, 8, .int .i64 0⟩),
  (3, ⟨.int .i64, 1, 8, .int .i64 0⟩),
  (4, ⟨.bool, 1, 1, .bool false⟩),
  (5, ⟨.int .u8, 1, 1, .int .u8 0⟩),
  (6, ⟨.int .u8, 1, 1, .int .u8 0⟩),
  (12, ⟨.int .u64, 1, 8, .int .u64 0⟩),
  (21, ⟨.int .i32, 1, 4, .int .i32 0⟩),
  (22, ⟨.slice 30, 1, 24, .slice none 0 0⟩),
  (23, ⟨.slice 4, 1, 24, .slice none 0 0⟩),
  (24, ⟨.slice 3, 1, 24, .slice none 0 0⟩),
  (38, ⟨.slice 24, 1, 24, .slice none 0 0⟩),
  (41, ⟨.int .i64, 1, 8, .int .i64 0⟩),
  (48, ⟨.slice 65, 1, 24, .slice none 0 0⟩),
  (57, ⟨.slice 56, 1, 24, .slice none 0 0⟩),
  (65, ⟨.slice 5, 1, 24, .slice none 0 0⟩),
  (78, ⟨.int .u64, 1, 8, .int .u64 0⟩),
  (81, ⟨.int .u64, 1, 8, .int .u64 0⟩),
  (84, ⟨.int .i64, 1, 8, .int .i64 0⟩),
  (92, ⟨.int .u32, 1, 4, .int .u32 0⟩),
  (94, ⟨.int .u64, 1, 8, .int .u64 0⟩),
  (110, ⟨.int .u8, 1, 1, .int .u8 0⟩),
  (111, ⟨.int .u8, 1, 1, .int .u8 0⟩),
  (114, ⟨.int .i32, 1, 4, .int .i32 0⟩),
  (115, ⟨.int .i32, 1, 4, .int .i32 0⟩),
  (1, ⟨.func, 1, 8, .nilFunc⟩),
  (7, ⟨.struct [(0, 2), (1, 3), (2, 4), (3, 6)], 4, 24, .agg #[.int .i64 0, .int .i64 0, .bool false, .int .u8 0]⟩),
  (8, ⟨.struct [(0, 2), (1, 3), (2, 4), (3, 6)], 4, 24, .agg #[.int .i64 0, .int .i64 0, .bool false, .int .u8 0]⟩),
  (9, ⟨.str, 1, 16, .string ByteArray.empty⟩),
  (10, ⟨.str, 1, 16, .string ByteArray.empty⟩),
  (11, ⟨.str, 1, 16, .string ByteArray.empty⟩),
  (13, ⟨.struct [(0, 9), (1, 12)], 2, 24, .agg #[.string ByteArray.empty, .int .u64 0]⟩),
  (14, ⟨.struct [(0, 9), (1, 12)], 2, 24, .agg #[.string ByteArray.empty, .int .u64 0]⟩),
  (15, ⟨.ptr 105, 1, 8, .pointer none⟩),
  (16, ⟨.ptr 108, 1, 8, .pointer none⟩),
  (17, ⟨.ptr 117, 1, 8, .pointer none⟩),
  (18, ⟨.struct [(0, 17)], 1, 8, .agg #[.pointer none]⟩),
  (19, ⟨.struct [(0, 17)], 1, 8, .agg #[.pointer none]⟩),
  (20, ⟨.iface, 1, 16, .nilIface⟩),
  (25, ⟨.struct [(0, 3), (1, 3), (2, 3), (3, 3), (4, 3), (5, 3), (6, 3)], 7, 56, .agg #[.int .i64 0, .int .i64 0, .int .i64 0, .int .i64 0, .int .i64 0, .int .i64 0, .int .i64 0]⟩),
  (26, ⟨.struct [(0, 3), (1, 3), (2, 3), (3, 3), (4, 3), (5, 3), (6, 3)], 7, 56, .agg #[.int .i64 0, .int .i64 0, .int .i64 0, .int .i64 0, .int .i64 0, .int .i64 0, .int .i64 0]⟩),
  (27, ⟨.func, 1, 8, .nilFunc⟩),
  (28, ⟨.func, 1, 8, .nilFunc⟩),
  (29, ⟨.struct [(0, 3), (1, 3), (2, 3), (3, 24), (4, 4), (5, 3)], 6, 64, .agg #[.int .i64 0, .int .i64 0, .int .i64 0, .slice none 0 0, .bool false, .int .i64 0]⟩),
  (30, ⟨.struct [(0, 3), (1, 3), (2, 3), (3, 24), (4, 4), (5, 3)], 6, 64, .agg #[.int .i64 0, .int .i64 0, .int .i64 0, .slice none 0 0, .bool false, .int .i64 0]⟩),
  (31, ⟨.struct [(0, 3), (1, 3), (2, 3), (3, 24), (4, 24)], 5, 72, .agg #[.int .i64 0, .int .i64 0, .int .i64 0, .slice none 0 0, .slice none 0 0]⟩),
  (32, ⟨.struct [(0, 3), (1, 3), (2, 3), (3, 24), (4, 24)], 5, 72, .agg #[.int .i64 0, .int .i64 0, .int .i64 0, .slice none 0 0, .slice none 0 0]⟩),
  (34, ⟨.func, 1, 8, .nilFunc⟩),
  (35, ⟨.func, 1, 8, .nilFunc⟩),
  (36, ⟨.func, 1, 8, .nilFunc⟩),
  (37, ⟨.func, 1, 8, .nilFunc⟩),
  (39, ⟨.func, 1, 8, .nilFunc⟩),
  (40, ⟨.func, 1, 8, .nilFunc⟩),
  (43, ⟨.func, 1, 8, .nilFunc⟩),
  (45, ⟨.func, 1, 8, .nilFunc⟩),
  (46, ⟨.func, 1, 8, .nilFunc⟩),
  (47, ⟨.func, 1, 8, .nilFunc⟩),
  (50, ⟨.func, 1, 8, .nilFunc⟩),
  (51, ⟨.ptr 55, 1, 8, .pointer none⟩),
  (52, ⟨.array 64 3, 64, 512, .agg #[.int .i64 0, .int .i64 0, .int .i64 0, .int .i64 0, .int .i64 0, .int .i64 0, .int .i64 0, .int .i64 0, .int .i64 0, .int .i64 0, .int .i64 0, .int .i64 0, .int .i64 0, .int .i64 0, .int .i64 0, .int .i64 0, .int .i64 0, .int .i64 0, .int .i64 0, .int .i64 0, .int .i64 0, .int .i64 0, .int .i64 0, .int .i64 0, .int .i64 0, .int .i64 0, .int .i64 0, .int .i64 0, .int .i64 0, .int .i64 0, .int .i64 0, .int .i64 0, .int .i64 0, .int .i64 0, .int .i64 0, .int .i64 0, .int .i64 0, .int .i64 0, .int .i64 0, .int .i64 0, .int .i64 0, .int .i64 0, .int .i64 0, .int .i64 0, .int .i64 0, .int .i64 0, .int .i64 0, .int .i64 0, .int .i64 0, .int .i64 0, .int .i64 0, .int .i64 0, .int .i64 0, .int .i64 0, .int .i64 0, .int .i64 0, .int .i64 0, .int .i64 0, .int .i64 0, .int .i64 0, .int .i64 0, .int .i64 0, .int .i64 0, .int .i64 0]⟩),
  (53, ⟨.func, 1, 8, .nilFunc⟩),
  (54, ⟨.struct [(0, 22), (1, 23), (2, 52), (66, 24), (67, 26)], 74, 640, .agg #[.slice none 0 0, .slice none 0 0, .int .i64 0, .int .i64 0, .int .i64 0, .int .i64 0, .int .i64 0, .int .i64 0, .int .i64 0, .int .i64 0, .int .i64 0, .int .i64 0, .int .i64 0, .int .i64 0, .int .i64 0, .int .i64 0, .int .i64 0, .int .i64 0, .int .i64 0, .int .i64 0, .int .i64 0, .int .i64 0, .int .i64 0, .int .i64 0, .int .i64 0, .int .i64 0, .int .i64 0, .int .i64 0, .int .i64 0, .int .i64 0, .int .i64 0, .int .i64 0, .int .i64 0, .int .i64 0, .int .i64 0, .int .i64 0, .int .i64 0, .int .i64 0, .int .i64 0, .int .i64 0, .int .i64 0, .int .i64 0, .int .i64 0, .int .i64 0, .int .i64 0, .int .i64 0, .int .i64 0, .int .i64 0, .int .i64 0, .int .i64 0, .int .i64 0, .int .i64 0, .int .i64 0, .int .i64 0, .int .i64 0, .int .i64 0, .int .i64 0, .int .i64 0, .int .i64 0, .int .i64 0, .int .i64 0, .int .i64 0, .int .i64 0, .int .i64 0, .int .i64 0, .int .i64 0, .slice none 0 0, .int .i64 0, .int .i64 0, .int .i64 0, .int .i64 0, .int .i64 0, .int .i64 0, .int .i64 0]⟩),
  (55, ⟨.struct [(0, 22), (1, 23), (2, 52), (66, 24), (67, 26)], 74, 640, .agg #[.slice none 0 0, .slice none 0 0, .int .i64 0, .int .i64 0, .int .i64 0, .int .i64 0, .int .i64 0, .int .i64 0, .int .i64 0, .int .i64 0, .int .i64 0, .int .i64 0, .int .i64 0, .int .i64 0, .int .i64 0, .int .i64 0, .int .i64 0, .int .i64 0, .int .i64 0, .int .i64 0, .int .i64 0, .int .i64 0, .int .i64 0, .int .i64 0, .int .i64 0, .int .i64 0, .int .i64 0, .int .i64 0, .int .i64 0, .int .i64 0, .int .i64 0, .int .i64 0, .int .i64 0, .int .i64 0, .int .i64 0, .int .i64 0, .int .i64 0, .int .i64 0, .int .i64 0, .int .i64 0, .int .i64 0, .int .i64 0, .int .i64 0, .int .i64 0, .int .i64 0, .int .i64 0, .int .i64 0, .int .i64 0, .int .i64 0, .int .i64 0, .int .i64 0, .int .i64 0, .int .i64 0, .int .i64 0, .int .i64 0, .int .i64 0, .int .i64 0, .int .i64 0, .int .i64 0, .int .i64 0, .int .i64 0, .int .i64 0, .int .i64 0, .int .i64 0, .int .i64 0, .int .i64 0, .slice none 0 0, .int .i64 0, .int .i64 0, .int .i64 0, .int .i64 0, .int .i64 0, .int .i64 0, .int .i64 0]⟩),
  (56, ⟨.func, 1, 8, .nilFunc⟩),
  (58, ⟨.func, 1, 8, .nilFunc⟩),
  (59, ⟨.func, 1, 8, .nilFunc⟩),
  (60, ⟨.func, 1, 8, .nilFunc⟩),
  (61, ⟨.func, 1, 8, .nilFunc⟩),
  (62, ⟨.func, 1, 8, .nilFunc⟩),
  (63, ⟨.func, 1, 8, .nilFunc⟩),
  (64, ⟨.func, 1, 8, .nilFunc⟩),
  (67, ⟨.func, 1, 8, .nilFunc⟩),
  (68, ⟨.func, 1, 8, .nilFunc⟩),
  (69, ⟨.func, 1, 8, .nilFunc⟩),
  (70, ⟨.func, 1, 8, .nilFunc⟩),
  (71, ⟨.func, 1, 8, .nilFunc⟩),
  (72, ⟨.func, 1, 8, .nilFunc⟩),
  (73, ⟨.func, 1, 8, .nilFunc⟩),
  (74, ⟨.func, 1, 8, .nilFunc⟩),
  (75, ⟨.func, 1, 8, .nilFunc⟩),
  (76, ⟨.func, 1, 8, .nilFunc⟩),
  (77, ⟨.func, 1, 8, .nilFunc⟩),
  (79, ⟨.func, 1, 8, .nilFunc⟩),
  (80, ⟨.func, 1, 8, .nilFunc⟩),
  (82, ⟨.func, 1, 8, .nilFunc⟩),
  (83, ⟨.func, 1, 8, .nilFunc⟩),
  (86, ⟨.func, 1, 8, .nilFunc⟩),
  (87, ⟨.func, 1, 8, .nilFunc⟩),
  (88, ⟨.func, 1, 8, .nilFunc⟩),
  (90, ⟨.func, 1, 8, .nilFunc⟩),
  (91, ⟨.func, 1, 8, .nilFunc⟩),
  (93, ⟨.func, 1, 8, .nilFunc⟩),
  (95, ⟨.func, 1, 8, .nilFunc⟩),
  (96, ⟨.func, 1, 8, .nilFunc⟩),
  (97, ⟨.func, 1, 8, .nilFunc⟩),
  (98, ⟨.ptr 3, 1, 8, .pointer none⟩),
  (99, ⟨.func, 1, 8, .nilFunc⟩),
  (100, ⟨.ptr 94, 1, 8, .pointer none⟩),
  (102, ⟨.func, 1, 8, .nilFunc⟩),
  (103, ⟨.func, 1, 8, .nilFunc⟩),
  (104, ⟨.struct [(0, 17), (1, 17), (2, 17), (3, 9)], 4, 40, .agg #[.pointer none, .pointer none, .pointer none, .string ByteArray.empty]⟩),
  (105, ⟨.struct [(0, 17), (1, 17), (2, 17), (3, 9)], 4, 40, .agg #[.pointer none, .pointer none, .pointer none, .string ByteArray.empty]⟩),
  (106, ⟨.array 0 16, 0, 0, .agg #[]⟩),
  (107, ⟨.struct [(0, 106)], 0, 0, .agg #[]⟩),
  (108, ⟨.struct [(0, 106)], 0, 0, .agg #[]⟩),
  (109, ⟨.func, 1, 8, .nilFunc⟩),
  (112, ⟨.func, 1, 8, .nilFunc⟩),
  (113, ⟨.ptr 5, 1, 8, .pointer none⟩),
  (116, ⟨.struct [(0, 12), (1, 12), (2, 92), (3, 110), (4, 5), (5, 5), (6, 111), (7, 112), (8, 113), (9, 114), (10, 115)], 11, 48, .agg #[.int .u64 0, .int .u64 0, .int .u32 0, .int .u8 0, .int .u8 0, .int .u8 0, .int .u8 0, .nilFunc, .pointer none, .int .i32 0, .int .i32 0]⟩),
  (117, ⟨.struct [(0, 12), (1, 12), (2, 92), (3, 110), (4, 5), (5, 5), (6, 111), (7, 112), (8, 113), (9, 114), (10, 115)], 11, 48, .agg #[.int .u64 0, .int .u64 0, .int .u32 0, .int .u8 0, .int .u8 0, .int .u8 0, .int .u8 0, .nilFunc, .pointer none, .int .i32 0, .int .i32 0]⟩)]
theorem ttOk : TabOk Try.prog TT := tabOk_cons ty2 <| tabOk_cons ty3 <| tabOk_cons ty4 <| tabOk_cons ty5 <| tabOk_cons ty6 <| tabOk_cons ty12 <| tabOk_cons ty21 <| tabOk_cons ty22 <| tabOk_cons ty23 <| tabOk_cons ty24 <| tabOk_cons ty38 <| tabOk_cons ty41 <| tabOk_cons ty48 <| tabOk_cons ty57 <| tabOk_cons ty65 <| tabOk_cons ty78 <| tabOk_cons ty81 <| tabOk_cons ty84 <| tabOk_cons ty92 <| tabOk_cons ty94 <| tabOk_cons ty110 <| tabOk_cons ty111 <| tabOk_cons ty114 <| tabOk_cons ty115 <| tabOk_cons ty1 <| tabOk_cons ty7 <| tabOk_cons ty8 <| tabOk_cons ty9 <| tabOk_cons ty10 <| tabOk_cons ty11 <| tabOk_cons ty13 <| tabOk_cons ty14 <| tabOk_cons ty15 <| tabOk_cons ty16 <| tabOk_cons ty17 <| tabOk_cons ty18 <| tabOk_cons ty19 <| tabOk_cons ty20 <| tabOk_cons ty25 <| tabOk_cons ty26 <| tabOk_cons ty27 <| tabOk_cons ty28 <| tabOk_cons ty29 <| tabOk_cons ty30 <| tabOk_cons ty31 <| tabOk_cons ty32 <| tabOk_cons ty34 <| tabOk_cons ty35 <| tabOk_cons ty36 <| tabOk_cons ty37 <| tabOk_cons ty39 <| tabOk_cons ty40 <| tabOk_cons ty43 <| tabOk_cons ty45 <| tabOk_cons ty46 <| tabOk_cons ty47 <| tabOk_cons ty50 <| tabOk_cons ty51 <| tabOk_cons ty52 <| tabOk_cons ty53 <| tabOk_cons ty54 <| tabOk_cons ty55 <| tabOk_cons ty56 <| tabOk_cons ty58 <| tabOk_cons ty59 <| tabOk_cons ty60 <| tabOk_cons ty61 <| tabOk_cons ty62 <| tabOk_cons ty63 <| tabOk_cons ty64 <| tabOk_cons ty67 <| tabOk_cons ty68 <| tabOk_cons ty69 <| tabOk_cons ty70 <| tabOk_cons ty71 <| tabOk_cons ty72 <| tabOk_cons ty73 <| tabOk_cons ty74 <| tabOk_cons ty75 <| tabOk_cons ty76 <| tabOk_cons ty77 <| tabOk_cons ty79 <| tabOk_cons ty80 <| tabOk_cons ty82 <| tabOk_cons ty83 <| tabOk_cons ty86 <| tabOk_cons ty87 <| tabOk_cons ty88 <| tabOk_cons ty90 <| tabOk_cons ty91 <| tabOk_cons ty93 <| tabOk_cons ty95 <| tabOk_cons ty96 <| tabOk_cons ty97 <| tabOk_cons ty98 <| tabOk_cons ty99 <| tabOk_cons ty100 <| tabOk_cons ty102 <| tabOk_cons ty103 <| tabOk_cons ty104 <| tabOk_cons ty105 <| tabOk_cons ty106 <| tabOk_cons ty107 <| tabOk_cons ty108 <| tabOk_cons ty109 <| tabOk_cons ty112 <| tabOk_cons ty113 <| tabOk_cons ty116 <| tabOk_cons ty117 <| tabOk_nil
theorem tl2 : look TT 2 = some ⟨.int .i64, 1, 8, .int .i64 0⟩ := rfl
theorem tl3 : look TT 3 = some ⟨.int .i64, 1, 8, .int .i64 0⟩ := rfl
theorem tl4 : look TT 4 = some ⟨.bool, 1, 1, .bool false⟩ := rfl
theorem tl5 : look TT 5 = some ⟨.int .u8, 1, 1, .int .u8 0⟩ := rfl
theorem tl6 : look TT 6 = some ⟨.int .u8, 1, 1, .int .u8 0⟩ := rfl
theorem tl12 : look TT 12 = some ⟨.int .u64, 1, 8, .int .u64 0⟩ := rfl
theorem tl21 : look TT 21 = some ⟨.int .i32, 1, 4, .int .i32 0⟩ := rfl
theorem tl22 : look TT 22 = some ⟨.slice 30, 1, 24, .slice none 0 0⟩ := rfl
theorem tl23 : look TT 23 = some ⟨.slice 4, 1, 24, .slice none 0 0⟩ := rfl
theorem tl24 : look TT 24 = some ⟨.slice 3, 1, 24, .slice none 0 0⟩ := rfl
theorem tl38 : look TT 38 = some ⟨.slice 24, 1, 24, .slice none 0 0⟩ := rfl
theorem tl41 : look TT 41 = some ⟨.int .i64, 1, 8, .int .i64 0⟩ := rfl
theorem tl48 : look TT 48 = some ⟨.slice 65, 1, 24, .slice none 0 0⟩ := rfl
theorem tl57 : look TT 57 = some ⟨.slice 56, 1, 24, .slice none 0 0⟩ := rfl
theorem tl65 : look TT 65 = some ⟨.slice 5, 1, 24, .slice none 0 0⟩ := rfl
theorem tl78 : look TT 78 = some ⟨.int .u64, 1, 8, .int .u64 0⟩ := rfl
theorem tl81 : look TT 81 = some ⟨.int .u64, 1, 8, .int .u64 0⟩ := rfl
theorem tl84 : look TT 84 = some ⟨.int .i64, 1, 8, .int .i64 0⟩ := rfl
theorem tl92 : look TT 92 = some ⟨.int .u32, 1, 4, .int .u32 0⟩ := rfl
theorem tl94 : look TT 94 = some ⟨.int .u64, 1, 8, .int .u64 0⟩ := rfl
theorem tl110 : look TT 110 = some ⟨.int .u8, 1, 1, .int .u8 0⟩ := rfl
theorem tl111 : look TT 111 = some ⟨.int .u8, 1, 1, .int .u8 0⟩ := rfl
theorem tl114 : look TT 114 = some ⟨.int .i32, 1, 4, .int .i32 0⟩ := rfl
theorem tl115 : look TT 115 = some ⟨.int .i32, 1, 4, .int .i32 0⟩ := rfl
theorem tl1 : look TT 1 = some ⟨.func, 1, 8, .nilFunc⟩ := rfl
theorem tl7 : look TT 7 = some ⟨.struct [(0, 2), (1, 3), (2, 4), (3, 6)], 4, 24, .agg #[.int .i64 0, .int .i64 0, .bool false, .int .u8 0]⟩ := rfl
theorem tl8 : look TT 8 = some ⟨.struct [(0, 2), (1, 3), (2, 4), (3, 6)], 4, 24, .agg #[.int .i64 0, .int .i64 0, .bool false, .int .u8 0]⟩ := rfl
theorem tl9 : look TT 9 = some ⟨.str, 1, 16, .string ByteArray.empty⟩ := rfl
theorem tl10 : look TT 10 = some ⟨.str, 1, 16, .string ByteArray.empty⟩ := rfl
theorem tl11 : look TT 11 = some ⟨.str, 1, 16, .string ByteArray.empty⟩ := rfl
theorem tl13 : look TT 13 = some ⟨.struct [(0, 9), (1, 12)], 2, 24, .agg #[.string ByteArray.empty, .int .u64 0]⟩ := rfl
theorem tl14 : look TT 14 = some ⟨.struct [(0, 9), (1, 12)], 2, 24, .agg #[.string ByteArray.empty, .int .u64 0]⟩ := rfl
theorem tl15 : look TT 15 = some ⟨.ptr 105, 1, 8, .pointer none⟩ := rfl
theorem tl16 : look TT 16 = some ⟨.ptr 108, 1, 8, .pointer none⟩ := rfl
theorem tl17 : look TT 17 = some ⟨.ptr 117, 1, 8, .pointer none⟩ := rfl
theorem tl18 : look TT 18 = some ⟨.struct [(0, 17)], 1, 8, .agg #[.pointer none]⟩ := rfl
theorem tl19 : look TT 19 = some ⟨.struct [(0, 17)], 1, 8, .agg #[.pointer none]⟩ := rfl
theorem tl20 : look TT 20 = some ⟨.iface, 1, 16, .nilIface⟩ := rfl
theorem tl25 : look TT 25 = some ⟨.struct [(0, 3), (1, 3), (2, 3), (3, 3), (4, 3), (5, 3), (6, 3)], 7, 56, .agg #[.int .i64 0, .int .i64 0, .int .i64 0, .int .i64 0, .int .i64 0, .int .i64 0, .int .i64 0]⟩ := rfl
theorem tl26 : look TT 26 = some ⟨.struct [(0, 3), (1, 3), (2, 3), (3, 3), (4, 3), (5, 3), (6, 3)], 7, 56, .agg #[.int .i64 0, .int .i64 0, .int .i64 0, .int .i64 0, .int .i64 0, .int .i64 0, .int .i64 0]⟩ := rfl
theorem tl27 : look TT 27 = some ⟨.func, 1, 8, .nilFunc⟩ := rfl
theorem tl28 : look TT 28 = some ⟨.func, 1, 8, .nilFunc⟩ := rfl
theorem tl29 : look TT 29 = some ⟨.struct [(0, 3), (1, 3), (2, 3), (3, 24), (4, 4), (5, 3)], 6, 64, .agg #[.int .i64 0, .int .i64 0, .int .i64 0, .slice none 0 0, .bool false, .int .i64 0]⟩ := rfl
theorem tl30 : look TT 30 = some ⟨.struct [(0, 3), (1, 3), (2, 3), (3, 24), (4, 4), (5, 3)], 6, 64, .agg #[.int .i64 0, .int .i64 0, .int .i64 0, .slice none 0 0, .bool false, .int .i64 0]⟩ := rfl
theorem tl31 : look TT 31 = some ⟨.struct [(0, 3), (1, 3), (2, 3), (3, 24), (4, 24)], 5, 72, .agg #[.int .i64 0, .int .i64 0, .int .i64 0, .slice none 0 0, .slice none 0 0]⟩ := rfl
theorem tl32 : look TT 32 = some ⟨.struct [(0, 3), (1, 3), (2, 3), (3, 24), (4, 24)], 5, 72, .agg #[.int .i64 0, .int .i64 0, .int .i64 0, .slice none 0 0, .slice none 0 0]⟩ := rfl
theorem tl34 : look TT 34 = some ⟨.func, 1, 8, .nilFunc⟩ := rfl
theorem tl35 : look TT 35 = some ⟨.func, 1, 8, .nilFunc⟩ := rfl
theorem tl36 : look TT 36 = some ⟨.func, 1, 8, .nilFunc⟩ := rfl
theorem tl37 : look TT 37 = some ⟨.func, 1, 8, .nilFunc⟩ := rfl
theorem tl39 : look TT 39 = some ⟨.func, 1, 8, .nilFunc⟩ := rfl
theorem tl40 : look TT 40 = some ⟨.func, 1, 8, .nilFunc⟩ := rfl
theorem tl43 : look TT 43 = some ⟨.func, 1, 8, .nilFunc⟩ := rfl
theorem tl45 : look TT 45 = some ⟨.func, 1, 8, .nilFunc⟩ := rfl
theorem tl46 : look TT 46 = some ⟨.func, 1, 8, .nilFunc⟩ := rfl
theorem tl47 : look TT 47 = some ⟨.func, 1, 8, .nilFunc⟩ := rfl
theorem tl50 : look TT 50 = some ⟨.func, 1, 8, .nilFunc⟩ := rfl
theorem tl51 : look TT 51 = some ⟨.ptr 55, 1, 8, .pointer none⟩ := rfl
theorem tl52 : look TT 52 = some ⟨.array 64 3, 64, 512, .agg #[.int .i64 0, .int .i64 0, .int .i64 0, .int .i64 0, .int .i64 0, .int .i64 0, .int .i64 0, .int .i64 0, .int .i64 0, .int .i64 0, .int .i64 0, .int .i64 0, .int .i64 0, .int .i64 0, .int .i64 0, .int .i64 0, .int .i64 0, .int .i64 0, .int .i64 0, .int .i64 0, .int .i64 0, .int .i64 0, .int .i64 0, .int .i64 0, .int .i64 0, .int .i64 0, .int .i64 0, .int .i64 0, .int .i64 0, .int .i64 0, .int .i64 0, .int .i64 0, .int .i64 0, .int .i64 0, .int .i64 0, .int .i64 0, .int .i64 0, .int .i64 0, .int .i64 0, .int .i64 0, .int .i64 0, .int .i64 0, .int .i64 0, .int .i64 0, .int .i64 0, .int .i64 0, .int .i64 0, .int .i64 0, .int .i64 0, .int .i64 0, .int .i64 0, .int .i64 0, .int .i64 0, .int .i64 0, .int .i64 0, .int .i64 0, .int .i64 0, .int .i64 0, .int .i64 0, .int .i64 0, .int .i64 0, .int .i64 0, .int .i64 0, .int .i64 0]⟩ := rfl
theorem tl53 : look TT 53 = some ⟨.func, 1, 8, .nilFunc⟩ := rfl
theorem tl54 : look TT 54 = some ⟨.struct [(0, 22), (1, 23), (2, 52), (66, 24), (67, 26)], 74, 640, .agg #[.slice none 0 0, .slice none 0 0, .int .i64 0, .int .i64 0, .int .i64 0, .int .i64 0, .int .i64 0, .int .i64 0, .int .i64 0, .int .i64 0, .int .i64 0, .int .i64 0, .int .i64 0, .int .i64 0, .int .i64 0, .int .i64 0, .int .i64 0, .int .i64 0, .int .i64 0, .int .i64 0, .int .i64 0, .int .i64 0, .int .i64 0, .int .i64 0, .int .i64 0, .int .i64 0, .int .i64 0, .int .i64 0, .int .i64 0, .int .i64 0, .int .i64 0, .int .i64 0, .int .i64 0, .int .i64 0, .int .i64 0, .int .i64 0, .int .i64 0, .int .i64 0, .int .i64 0, .int .i64 0, .int .i64 0, .int .i64 0, .int .i64 0, .int .i64 0, .int .i64 0, .int .i64 0, .int .i64 0, .int .i64 0, .int .i64 0, .int .i64 0, .int .i64 0, .int .i64 0, .int .i64 0, .int .i64 0, .int .i64 0, .int .i64 0, .int .i64 0, .int .i64 0, .int .i64 0, .int .i64 0, .int .i64 0, .int .i64 0, .int .i64 0, .int .i64 0, .int .i64 0, .int .i64 0, .slice none 0 0, .int .i64 0, .int .i64 0, .int .i64 0, .int .i64 0, .int .i64 0, .int .i64 0, .int .i64 0]⟩ := rfl
theorem tl55 : look TT 55 = some ⟨.struct [(0, 22), (1, 23), (2, 52), (66, 24), (67, 26)], 74, 640, .agg #[.slice none 0 0, .slice none 0 0, .int .i64 0, .int .i64 0, .int .i64 0, .int .i64 0, .int .i64 0, .int .i64 0, .int .i64 0, .int .i64 0, .int .i64 0, .int .i64 0, .int .i64 0, .int .i64 0, .int .i64 0, .int .i64 0, .int .i64 0, .int .i64 0, .int .i64 0, .int .i64 0, .int .i64 0, .int .i64 0, .int .i64 0, .int .i64 0, .int .i64 0, .int .i64 0, .int .i64 0, .int .i64 0, .int .i64 0, .int .i64 0, .int .i64 0, .int .i64 0, .int .i64 0, .int .i64 0, .int .i64 0, .int .i64 0, .int .i64 0, .int .i64 0, .int .i64 0, .int .i64 0, .int .i64 0, .int .i64 0, .int .i64 0, .int .i64 0, .int .i64 0, .int .i64 0, .int .i64 0, .int .i64 0, .int .i64 0, .int .i64 0, .int .i64 0, .int .i64 0, .int .i64 0, .int .i64 0, .int .i64 0, .int .i64 0, .int .i64 0, .int .i64 0, .int .i64 0, .int .i64 0, .int .i64 0, .int .i64 0, .int .i64 0, .int .i64 0, .int .i64 0, .int .i64 0, .slice none 0 0, .int .i64 0, .int .i64 0, .int .i64 0, .int .i64 0, .int .i64 0, .int .i64 0, .int .i64 0]⟩ := rfl
theorem tl56 : look TT 56 = some ⟨.func, 1, 8, .nilFunc⟩ := rfl
theorem tl58 : look TT 58 = some ⟨.func, 1, 8, .nilFunc⟩ := rfl
theorem tl59 : look TT 59 = some ⟨.func, 1, 8, .nilFunc⟩ := rfl
theorem tl60 : look TT 60 = some ⟨.func, 1, 8, .nilFunc⟩ := rfl
theorem tl61 : look TT 61 = some ⟨.func, 1, 8, .nilFunc⟩ := rfl
theorem tl62 : look TT 62 = some ⟨.func, 1, 8, .nilFunc⟩ := rfl
theorem tl63 : look TT 63 = some ⟨.func, 1, 8, .nilFunc⟩ := rfl
theorem tl64 : look TT 64 = some ⟨.func, 1, 8, .nilFunc⟩ := rfl
theorem tl67 : look TT 67 = some ⟨.func, 1, 8, .nilFunc⟩ := rfl
theorem tl68 : look TT 68 = some ⟨.func, 1, 8, .nilFunc⟩ := rfl
theorem tl69 : look TT 69 = some ⟨.func, 1, 8, .nilFunc⟩ := rfl
theorem tl70 : look TT 70 = some ⟨.func, 1, 8, .nilFunc⟩ := rfl
theorem tl71 : look TT 71 = some ⟨.func, 1, 8, .nilFunc⟩ := rfl
theorem tl72 : look TT 72 = some ⟨.func, 1, 8, .nilFunc⟩ := rfl
theorem tl73 : look TT 73 = some ⟨.func, 1, 8, .nilFunc⟩ := rfl
theorem tl74 : look TT 74 = some ⟨.func, 1, 8, .nilFunc⟩ := rfl
theorem tl75 : look TT 75 = some ⟨.func, 1, 8, .nilFunc⟩ := rfl
theorem tl76 : look TT 76 = some ⟨.func, 1, 8, .nilFunc⟩ := rfl
theorem tl77 : look TT 77 = some ⟨.func, 1, 8, .nilFunc⟩ := rfl
theorem tl79 : look TT 79 = some ⟨.func, 1, 8, .nilFunc⟩ := rfl
theorem tl80 : look TT 80 = some ⟨.func, 1, 8, .nilFunc⟩ := rfl
theorem tl82 : look TT 82 = some ⟨.func, 1, 8, .nilFunc⟩ := rfl
theorem tl83 : look TT 83 = some ⟨.func, 1, 8, .nilFunc⟩ := rfl
theorem tl86 : look TT 86 = some ⟨.func, 1, 8, .nilFunc⟩ := rfl
theorem tl87 : look TT 87 = some ⟨.func, 1, 8, .nilFunc⟩ := rfl
theorem tl88 : look TT 88 = some ⟨.func, 1, 8, .nilFunc⟩ := rfl
theorem tl90 : look TT 90 = some ⟨.func, 1, 8, .nilFunc⟩ := rfl
theorem tl91 : look TT 91 = some ⟨.func, 1, 8, .nilFunc⟩ := rfl
theorem tl93 : look TT 93 = some ⟨.func, 1, 8, .nilFunc⟩ := rfl
theorem tl95 : look TT 95 = some ⟨.func, 1, 8, .nilFunc⟩ := rfl
theorem tl96 : look TT 96 = some ⟨.func, 1, 8, .nilFunc⟩ := rfl
theorem tl97 : look TT 97 = some ⟨.func, 1, 8, .nilFunc⟩ := rfl
theorem tl98 : look TT 98 = some ⟨.ptr 3, 1, 8, .pointer none⟩ := rfl
theorem tl99 : look TT 99 = some ⟨.func, 1, 8, .nilFunc⟩ := rfl
theorem tl100 : look TT 100 = some ⟨.ptr 94, 1, 8, .pointer none⟩ := rfl
theorem tl102 : look TT 102 = some ⟨.func, 1, 8, .nilFunc⟩ := rfl
theorem tl103 : look TT 103 = some ⟨.func, 1, 8, .nilFunc⟩ := rfl
theorem tl104 : look TT 104 = some ⟨.struct [(0, 17), (1, 17), (2, 17), (3, 9)], 4, 40, .agg #[.pointer none, .pointer none, .pointer none, .string ByteArray.empty]⟩ := rfl
theorem tl105 : look TT 105 = some ⟨.struct [(0, 17), (1, 17), (2, 17), (3, 9)], 4, 40, .agg #[.pointer none, .pointer none, .pointer none, .string ByteArray.empty]⟩ := rfl
theorem tl106 : look TT 106 = some ⟨.array 0 16, 0, 0, .agg #[]⟩ := rfl
theorem tl107 : look TT 107 = some ⟨.struct [(0, 106)], 0, 0, .agg #[]⟩ := rfl
theorem tl108 : look TT 108 = some ⟨.struct [(0, 106)], 0, 0, .agg #[]⟩ := rfl
theorem tl109 : look TT 109 = some ⟨.func, 1, 8, .nilFunc⟩ := rfl
theorem tl112 : look TT 112 = some ⟨.func, 1, 8, .nilFunc⟩ := rfl
theorem tl113 : look TT 113 = some ⟨.ptr 5, 1, 8, .pointer none⟩ := rfl
theorem tl116 : look TT 116 = some ⟨.struct [(0, 12), (1, 12), (2, 92), (3, 110), (4, 5), (5, 5), (6, 111), (7, 112), (8, 113), (9, 114), (10, 115)], 11, 48, .agg #[.int .u64 0, .int .u64 0, .int .u32 0, .int .u8 0, .int .u8 0, .int .u8 0, .int .u8 0, .nilFunc, .pointer none, .int .i32 0, .int .i32 0]⟩ := rfl
theorem tl117 : look TT 117 = some ⟨.struct [(0, 12), (1, 12), (2, 92), (3, 110), (4, 5), (5, 5), (6, 111), (7, 112), (8, 113), (9, 114), (10, 115)], 11, 48, .agg #[.int .u64 0, .int .u64 0, .int .u32 0, .int .u8 0, .int .u8 0, .int .u8 0, .int .u8 0, .nilFunc, .pointer none, .int .i32 0, .int .i32 0]⟩ := rfl
theorem mixed : Try.prog.follows .mixedOrders = true := by kernel_rfl
end Go.Proofs.Ythifnfoppamkiaa
