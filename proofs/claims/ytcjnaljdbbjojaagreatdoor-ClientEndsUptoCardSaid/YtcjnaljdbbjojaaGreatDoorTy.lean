/- The table of this translation's types, printed by gen_types.py. Nothing is claimed here. -/
import Derived.Test.YtcjnaljdbbjojaaGreatDoorVV
import Derived.Test.YtcjnaljdbbjojaaGreatDoorChecked
namespace Go.Proofs.YtcjnaljdbbjojaaGreatDoor
theorem ty2 : TdOk Tryz.prog 2 ⟨.int .i64, 1, 8, .int .i64 0⟩ := ⟨by kernel_rfl, by kernel_rfl⟩
theorem ty3 : TdOk Tryz.prog 3 ⟨.int .i64, 1, 8, .int .i64 0⟩ := ⟨by kernel_rfl, by kernel_rfl⟩
theorem ty4 : TdOk Tryz.prog 4 ⟨.bool, 1, 1, .bool false⟩ := ⟨by kernel_rfl, by kernel_rfl⟩
theorem ty5 : TdOk Tryz.prog 5 ⟨.int .u8, 1, 1, .int .u8 0⟩ := ⟨by kernel_rfl, by kernel_rfl⟩
theorem ty6 : TdOk Tryz.prog 6 ⟨.int .u8, 1, 1, .int .u8 0⟩ := ⟨by kernel_rfl, by kernel_rfl⟩
theorem ty12 : TdOk Tryz.prog 12 ⟨.int .u64, 1, 8, .int .u64 0⟩ := ⟨by kernel_rfl, by kernel_rfl⟩
theorem ty21 : TdOk Tryz.prog 21 ⟨.int .i32, 1, 4, .int .i32 0⟩ := ⟨by kernel_rfl, by kernel_rfl⟩
theorem ty24 : TdOk Tryz.prog 24 ⟨.int .i64, 1, 8, .int .i64 0⟩ := ⟨by kernel_rfl, by kernel_rfl⟩
theorem ty30 : TdOk Tryz.prog 30 ⟨.slice 42, 1, 24, .slice none 0 0⟩ := ⟨by kernel_rfl, by kernel_rfl⟩
theorem ty33 : TdOk Tryz.prog 33 ⟨.int .u64, 1, 8, .int .u64 0⟩ := ⟨by kernel_rfl, by kernel_rfl⟩
theorem ty34 : TdOk Tryz.prog 34 ⟨.int .u32, 1, 4, .int .u32 0⟩ := ⟨by kernel_rfl, by kernel_rfl⟩
theorem ty37 : TdOk Tryz.prog 37 ⟨.slice 5, 1, 24, .slice none 0 0⟩ := ⟨by kernel_rfl, by kernel_rfl⟩
theorem ty40 : TdOk Tryz.prog 40 ⟨.slice 3, 1, 24, .slice none 0 0⟩ := ⟨by kernel_rfl, by kernel_rfl⟩
theorem ty43 : TdOk Tryz.prog 43 ⟨.slice 51, 1, 24, .slice none 0 0⟩ := ⟨by kernel_rfl, by kernel_rfl⟩
theorem ty48 : TdOk Tryz.prog 48 ⟨.slice 39, 1, 24, .slice none 0 0⟩ := ⟨by kernel_rfl, by kernel_rfl⟩
theorem ty65 : TdOk Tryz.prog 65 ⟨.slice 83, 1, 24, .slice none 0 0⟩ := ⟨by kernel_rfl, by kernel_rfl⟩
theorem ty66 : TdOk Tryz.prog 66 ⟨.slice 96, 1, 24, .slice none 0 0⟩ := ⟨by kernel_rfl, by kernel_rfl⟩
theorem ty83 : TdOk Tryz.prog 83 ⟨.slice 37, 1, 24, .slice none 0 0⟩ := ⟨by kernel_rfl, by kernel_rfl⟩
theorem ty116 : TdOk Tryz.prog 116 ⟨.int .u64, 1, 8, .int .u64 0⟩ := ⟨by kernel_rfl, by kernel_rfl⟩
theorem ty149 : TdOk Tryz.prog 149 ⟨.int .u32, 1, 4, .int .u32 0⟩ := ⟨by kernel_rfl, by kernel_rfl⟩
theorem ty159 : TdOk Tryz.prog 159 ⟨.int .i64, 1, 8, .int .i64 0⟩ := ⟨by kernel_rfl, by kernel_rfl⟩
theorem ty183 : TdOk Tryz.prog 183 ⟨.int .u64, 1, 8, .int .u64 0⟩ := ⟨by kernel_rfl, by kernel_rfl⟩
theorem ty204 : TdOk Tryz.prog 204 ⟨.int .u8, 1, 1, .int .u8 0⟩ := ⟨by kernel_rfl, by kernel_rfl⟩
theorem ty205 : TdOk Tryz.prog 205 ⟨.int .u8, 1, 1, .int .u8 0⟩ := ⟨by kernel_rfl, by kernel_rfl⟩
theorem ty208 : TdOk Tryz.prog 208 ⟨.int .i32, 1, 4, .int .i32 0⟩ := ⟨by kernel_rfl, by kernel_rfl⟩
theorem ty209 : TdOk Tryz.prog 209 ⟨.int .i32, 1, 4, .int .i32 0⟩ := ⟨by kernel_rfl, by kernel_rfl⟩
theorem ty1 : TdOk Tryz.prog 1 ⟨.func, 1, 8, .nilFunc⟩ := ⟨by kernel_rfl, by kernel_rfl⟩
theorem ty7 : TdOk Tryz.prog 7 ⟨.struct [(0, 2), (1, 3), (2, 4), (3, 6)], 4, 24, .agg #[.int .i64 0, .int .i64 0, .bool false, .int .u8 0]⟩ := ⟨by kernel_rfl, by kernel_rfl⟩
theorem ty8 : TdOk Tryz.prog 8 ⟨.struct [(0, 2), (1, 3), (2, 4), (3, 6)], 4, 24, .agg #[.int .i64 0, .int .i64 0, .bool false, .int .u8 0]⟩ := ⟨by kernel_rfl, by kernel_rfl⟩
theorem ty9 : TdOk Tryz.prog 9 ⟨.str, 1, 16, .string ByteArray.empty⟩ := ⟨by kernel_rfl, by kernel_rfl⟩
theorem ty10 : TdOk Tryz.prog 10 ⟨.str, 1, 16, .string ByteArray.empty⟩ := ⟨by kernel_rfl, by kernel_rfl⟩
theorem ty11 : TdOk Tryz.prog 11 ⟨.str, 1, 16, .string ByteArray.empty⟩ := ⟨by kernel_rfl, by kernel_rfl⟩
theorem ty13 : TdOk Tryz.prog 13 ⟨.struct [(0, 9), (1, 12)], 2, 24, .agg #[.string ByteArray.empty, .int .u64 0]⟩ := ⟨by kernel_rfl, by kernel_rfl⟩
theorem ty14 : TdOk Tryz.prog 14 ⟨.struct [(0, 9), (1, 12)], 2, 24, .agg #[.string ByteArray.empty, .int .u64 0]⟩ := ⟨by kernel_rfl, by kernel_rfl⟩
theorem ty15 : TdOk Tryz.prog 15 ⟨.ptr 200, 1, 8, .pointer none⟩ := ⟨by kernel_rfl, by kernel_rfl⟩
theorem ty16 : TdOk Tryz.prog 16 ⟨.ptr 203, 1, 8, .pointer none⟩ := ⟨by kernel_rfl, by kernel_rfl⟩
theorem ty17 : TdOk Tryz.prog 17 ⟨.ptr 211, 1, 8, .pointer none⟩ := ⟨by kernel_rfl, by kernel_rfl⟩
theorem ty18 : TdOk Tryz.prog 18 ⟨.struct [(0, 17)], 1, 8, .agg #[.pointer none]⟩ := ⟨by kernel_rfl, by kernel_rfl⟩
theorem ty19 : TdOk Tryz.prog 19 ⟨.struct [(0, 17)], 1, 8, .agg #[.pointer none]⟩ := ⟨by kernel_rfl, by kernel_rfl⟩
theorem ty20 : TdOk Tryz.prog 20 ⟨.iface, 1, 16, .nilIface⟩ := ⟨by kernel_rfl, by kernel_rfl⟩
theorem ty22 : TdOk Tryz.prog 22 ⟨.func, 1, 8, .nilFunc⟩ := ⟨by kernel_rfl, by kernel_rfl⟩
theorem ty23 : TdOk Tryz.prog 23 ⟨.ptr 60, 1, 8, .pointer none⟩ := ⟨by kernel_rfl, by kernel_rfl⟩
theorem ty26 : TdOk Tryz.prog 26 ⟨.func, 1, 8, .nilFunc⟩ := ⟨by kernel_rfl, by kernel_rfl⟩
theorem ty27 : TdOk Tryz.prog 27 ⟨.struct [(0, 3), (1, 3), (2, 3), (3, 3), (4, 3), (5, 3), (6, 3)], 7, 56, .agg #[.int .i64 0, .int .i64 0, .int .i64 0, .int .i64 0, .int .i64 0, .int .i64 0, .int .i64 0]⟩ := ⟨by kernel_rfl, by kernel_rfl⟩
theorem ty28 : TdOk Tryz.prog 28 ⟨.struct [(0, 3), (1, 3), (2, 3), (3, 3), (4, 3), (5, 3), (6, 3)], 7, 56, .agg #[.int .i64 0, .int .i64 0, .int .i64 0, .int .i64 0, .int .i64 0, .int .i64 0, .int .i64 0]⟩ := ⟨by kernel_rfl, by kernel_rfl⟩
theorem ty29 : TdOk Tryz.prog 29 ⟨.func, 1, 8, .nilFunc⟩ := ⟨by kernel_rfl, by kernel_rfl⟩
theorem ty32 : TdOk Tryz.prog 32 ⟨.func, 1, 8, .nilFunc⟩ := ⟨by kernel_rfl, by kernel_rfl⟩
theorem ty35 : TdOk Tryz.prog 35 ⟨.struct [(0, 3), (1, 33), (2, 34)], 3, 24, .agg #[.int .i64 0, .int .u64 0, .int .u32 0]⟩ := ⟨by kernel_rfl, by kernel_rfl⟩
theorem ty36 : TdOk Tryz.prog 36 ⟨.struct [(0, 3), (1, 33), (2, 34)], 3, 24, .agg #[.int .i64 0, .int .u64 0, .int .u32 0]⟩ := ⟨by kernel_rfl, by kernel_rfl⟩
theorem ty38 : TdOk Tryz.prog 38 ⟨.struct [(0, 3), (1, 36), (4, 37)], 5, 56, .agg #[.int .i64 0, .int .i64 0, .int .u64 0, .int .u32 0, .slice none 0 0]⟩ := ⟨by kernel_rfl, by kernel_rfl⟩
theorem ty39 : TdOk Tryz.prog 39 ⟨.struct [(0, 3), (1, 36), (4, 37)], 5, 56, .agg #[.int .i64 0, .int .i64 0, .int .u64 0, .int .u32 0, .slice none 0 0]⟩ := ⟨by kernel_rfl, by kernel_rfl⟩
theorem ty41 : TdOk Tryz.prog 41 ⟨.struct [(0, 3), (1, 3), (2, 3), (3, 40), (4, 37)], 5, 72, .agg #[.int .i64 0, .int .i64 0, .int .i64 0, .slice none 0 0, .slice none 0 0]⟩ := ⟨by kernel_rfl, by kernel_rfl⟩
theorem ty42 : TdOk Tryz.prog 42 ⟨.struct [(0, 3), (1, 3), (2, 3), (3, 40), (4, 37)], 5, 72, .agg #[.int .i64 0, .int .i64 0, .int .i64 0, .slice none 0 0, .slice none 0 0]⟩ := ⟨by kernel_rfl, by kernel_rfl⟩
theorem ty45 : TdOk Tryz.prog 45 ⟨.func, 1, 8, .nilFunc⟩ := ⟨by kernel_rfl, by kernel_rfl⟩
theorem ty46 : TdOk Tryz.prog 46 ⟨.func, 1, 8, .nilFunc⟩ := ⟨by kernel_rfl, by kernel_rfl⟩
theorem ty47 : TdOk Tryz.prog 47 ⟨.func, 1, 8, .nilFunc⟩ := ⟨by kernel_rfl, by kernel_rfl⟩
theorem ty49 : TdOk Tryz.prog 49 ⟨.func, 1, 8, .nilFunc⟩ := ⟨by kernel_rfl, by kernel_rfl⟩
theorem ty50 : TdOk Tryz.prog 50 ⟨.struct [(0, 3), (1, 24), (2, 36), (5, 37)], 6, 64, .agg #[.int .i64 0, .int .i64 0, .int .i64 0, .int .u64 0, .int .u32 0, .slice none 0 0]⟩ := ⟨by kernel_rfl, by kernel_rfl⟩
theorem ty51 : TdOk Tryz.prog 51 ⟨.struct [(0, 3), (1, 24), (2, 36), (5, 37)], 6, 64, .agg #[.int .i64 0, .int .i64 0, .int .i64 0, .int .u64 0, .int .u32 0, .slice none 0 0]⟩ := ⟨by kernel_rfl, by kernel_rfl⟩
theorem ty52 : TdOk Tryz.prog 52 ⟨.func, 1, 8, .nilFunc⟩ := ⟨by kernel_rfl, by kernel_rfl⟩
theorem ty53 : TdOk Tryz.prog 53 ⟨.func, 1, 8, .nilFunc⟩ := ⟨by kernel_rfl, by kernel_rfl⟩
theorem ty55 : TdOk Tryz.prog 55 ⟨.func, 1, 8, .nilFunc⟩ := ⟨by kernel_rfl, by kernel_rfl⟩
theorem ty56 : TdOk Tryz.prog 56 ⟨.func, 1, 8, .nilFunc⟩ := ⟨by kernel_rfl, by kernel_rfl⟩
theorem ty57 : TdOk Tryz.prog 57 ⟨.func, 1, 8, .nilFunc⟩ := ⟨by kernel_rfl, by kernel_rfl⟩
theorem ty58 : TdOk Tryz.prog 58 ⟨.map 3 63, 1, 8, .map none⟩ := ⟨by kernel_rfl, by kernel_rfl⟩
theorem ty59 : TdOk Tryz.prog 59 ⟨.struct [(0, 3), (1, 28), (8, 3), (9, 3), (10, 3), (11, 58), (12, 43), (13, 30)], 14, 144, .agg #[.int .i64 0, .int .i64 0, .int .i64 0, .int .i64 0, .int .i64 0, .int .i64 0, .int .i64 0, .int .i64 0, .int .i64 0, .int .i64 0, .int .i64 0, .map none, .slice none 0 0, .slice none 0 0]⟩ := ⟨by kernel_rfl, by kernel_rfl⟩
theorem ty60 : TdOk Tryz.prog 60 ⟨.struct [(0, 3), (1, 28), (8, 3), (9, 3), (10, 3), (11, 58), (12, 43), (13, 30)], 14, 144, .agg #[.int .i64 0, .int .i64 0, .int .i64 0, .int .i64 0, .int .i64 0, .int .i64 0, .int .i64 0, .int .i64 0, .int .i64 0, .int .i64 0, .int .i64 0, .map none, .slice none 0 0, .slice none 0 0]⟩ := ⟨by kernel_rfl, by kernel_rfl⟩
theorem ty61 : TdOk Tryz.prog 61 ⟨.func, 1, 8, .nilFunc⟩ := ⟨by kernel_rfl, by kernel_rfl⟩
theorem ty62 : TdOk Tryz.prog 62 ⟨.func, 1, 8, .nilFunc⟩ := ⟨by kernel_rfl, by kernel_rfl⟩
theorem ty63 : TdOk Tryz.prog 63 ⟨.ptr 70, 1, 8, .pointer none⟩ := ⟨by kernel_rfl, by kernel_rfl⟩
theorem ty64 : TdOk Tryz.prog 64 ⟨.map 3 4, 1, 8, .map none⟩ := ⟨by kernel_rfl, by kernel_rfl⟩
theorem ty67 : TdOk Tryz.prog 67 ⟨.struct [(0, 65), (1, 3), (2, 66), (3, 4)], 4, 64, .agg #[.slice none 0 0, .int .i64 0, .slice none 0 0, .bool false]⟩ := ⟨by kernel_rfl, by kernel_rfl⟩
theorem ty68 : TdOk Tryz.prog 68 ⟨.struct [(0, 65), (1, 3), (2, 66), (3, 4)], 4, 64, .agg #[.slice none 0 0, .int .i64 0, .slice none 0 0, .bool false]⟩ := ⟨by kernel_rfl, by kernel_rfl⟩
theorem ty69 : TdOk Tryz.prog 69 ⟨.struct [(0, 3), (1, 39), (6, 34), (7, 3), (8, 3), (9, 3), (10, 3), (11, 3), (12, 24), (13, 37), (14, 3), (15, 40), (16, 3), (17, 64), (18, 3), (19, 3), (20, 68)], 24, 272, .agg #[.int .i64 0, .int .i64 0, .int .i64 0, .int .u64 0, .int .u32 0, .slice none 0 0, .int .u32 0, .int .i64 0, .int .i64 0, .int .i64 0, .int .i64 0, .int .i64 0, .int .i64 0, .slice none 0 0, .int .i64 0, .slice none 0 0, .int .i64 0, .map none, .int .i64 0, .int .i64 0, .slice none 0 0, .int .i64 0, .slice none 0 0, .bool false]⟩ := ⟨by kernel_rfl, by kernel_rfl⟩
theorem ty70 : TdOk Tryz.prog 70 ⟨.struct [(0, 3), (1, 39), (6, 34), (7, 3), (8, 3), (9, 3), (10, 3), (11, 3), (12, 24), (13, 37), (14, 3), (15, 40), (16, 3), (17, 64), (18, 3), (19, 3), (20, 68)], 24, 272, .agg #[.int .i64 0, .int .i64 0, .int .i64 0, .int .u64 0, .int .u32 0, .slice none 0 0, .int .u32 0, .int .i64 0, .int .i64 0, .int .i64 0, .int .i64 0, .int .i64 0, .int .i64 0, .slice none 0 0, .int .i64 0, .slice none 0 0, .int .i64 0, .map none, .int .i64 0, .int .i64 0, .slice none 0 0, .int .i64 0, .slice none 0 0, .bool false]⟩ := ⟨by kernel_rfl, by kernel_rfl⟩
theorem ty71 : TdOk Tryz.prog 71 ⟨.func, 1, 8, .nilFunc⟩ := ⟨by kernel_rfl, by kernel_rfl⟩
theorem ty72 : TdOk Tryz.prog 72 ⟨.func, 1, 8, .nilFunc⟩ := ⟨by kernel_rfl, by kernel_rfl⟩
theorem ty73 : TdOk Tryz.prog 73 ⟨.array 7 3, 7, 56, .agg #[.int .i64 0, .int .i64 0, .int .i64 0, .int .i64 0, .int .i64 0, .int .i64 0, .int .i64 0]⟩ := ⟨by kernel_rfl, by kernel_rfl⟩
theorem ty74 : TdOk Tryz.prog 74 ⟨.func, 1, 8, .nilFunc⟩ := ⟨by kernel_rfl, by kernel_rfl⟩
theorem ty75 : TdOk Tryz.prog 75 ⟨.func, 1, 8, .nilFunc⟩ := ⟨by kernel_rfl, by kernel_rfl⟩
theorem ty76 : TdOk Tryz.prog 76 ⟨.func, 1, 8, .nilFunc⟩ := ⟨by kernel_rfl, by kernel_rfl⟩
theorem ty77 : TdOk Tryz.prog 77 ⟨.func, 1, 8, .nilFunc⟩ := ⟨by kernel_rfl, by kernel_rfl⟩
theorem ty78 : TdOk Tryz.prog 78 ⟨.func, 1, 8, .nilFunc⟩ := ⟨by kernel_rfl, by kernel_rfl⟩
theorem ty79 : TdOk Tryz.prog 79 ⟨.func, 1, 8, .nilFunc⟩ := ⟨by kernel_rfl, by kernel_rfl⟩
theorem ty80 : TdOk Tryz.prog 80 ⟨.func, 1, 8, .nilFunc⟩ := ⟨by kernel_rfl, by kernel_rfl⟩
theorem ty81 : TdOk Tryz.prog 81 ⟨.func, 1, 8, .nilFunc⟩ := ⟨by kernel_rfl, by kernel_rfl⟩
theorem ty82 : TdOk Tryz.prog 82 ⟨.func, 1, 8, .nilFunc⟩ := ⟨by kernel_rfl, by kernel_rfl⟩
theorem ty85 : TdOk Tryz.prog 85 ⟨.func, 1, 8, .nilFunc⟩ := ⟨by kernel_rfl, by kernel_rfl⟩
theorem ty86 : TdOk Tryz.prog 86 ⟨.func, 1, 8, .nilFunc⟩ := ⟨by kernel_rfl, by kernel_rfl⟩
theorem ty87 : TdOk Tryz.prog 87 ⟨.func, 1, 8, .nilFunc⟩ := ⟨by kernel_rfl, by kernel_rfl⟩
theorem ty88 : TdOk Tryz.prog 88 ⟨.func, 1, 8, .nilFunc⟩ := ⟨by kernel_rfl, by kernel_rfl⟩
theorem ty89 : TdOk Tryz.prog 89 ⟨.func, 1, 8, .nilFunc⟩ := ⟨by kernel_rfl, by kernel_rfl⟩
theorem ty90 : TdOk Tryz.prog 90 ⟨.func, 1, 8, .nilFunc⟩ := ⟨by kernel_rfl, by kernel_rfl⟩
theorem ty91 : TdOk Tryz.prog 91 ⟨.func, 1, 8, .nilFunc⟩ := ⟨by kernel_rfl, by kernel_rfl⟩
theorem ty92 : TdOk Tryz.prog 92 ⟨.ptr 68, 1, 8, .pointer none⟩ := ⟨by kernel_rfl, by kernel_rfl⟩
theorem ty94 : TdOk Tryz.prog 94 ⟨.func, 1, 8, .nilFunc⟩ := ⟨by kernel_rfl, by kernel_rfl⟩
theorem ty95 : TdOk Tryz.prog 95 ⟨.struct [(0, 33), (1, 3), (2, 3), (3, 34), (4, 4)], 5, 32, .agg #[.int .u64 0, .int .i64 0, .int .i64 0, .int .u32 0, .bool false]⟩ := ⟨by kernel_rfl, by kernel_rfl⟩
theorem ty96 : TdOk Tryz.prog 96 ⟨.struct [(0, 33), (1, 3), (2, 3), (3, 34), (4, 4)], 5, 32, .agg #[.int .u64 0, .int .i64 0, .int .i64 0, .int .u32 0, .bool false]⟩ := ⟨by kernel_rfl, by kernel_rfl⟩
theorem ty97 : TdOk Tryz.prog 97 ⟨.func, 1, 8, .nilFunc⟩ := ⟨by kernel_rfl, by kernel_rfl⟩
theorem ty98 : TdOk Tryz.prog 98 ⟨.func, 1, 8, .nilFunc⟩ := ⟨by kernel_rfl, by kernel_rfl⟩
theorem ty100 : TdOk Tryz.prog 100 ⟨.func, 1, 8, .nilFunc⟩ := ⟨by kernel_rfl, by kernel_rfl⟩
theorem ty101 : TdOk Tryz.prog 101 ⟨.struct [(0, 33), (1, 34), (2, 4), (3, 37)], 4, 40, .agg #[.int .u64 0, .int .u32 0, .bool false, .slice none 0 0]⟩ := ⟨by kernel_rfl, by kernel_rfl⟩
theorem ty102 : TdOk Tryz.prog 102 ⟨.struct [(0, 33), (1, 34), (2, 4), (3, 37)], 4, 40, .agg #[.int .u64 0, .int .u32 0, .bool false, .slice none 0 0]⟩ := ⟨by kernel_rfl, by kernel_rfl⟩
theorem ty104 : TdOk Tryz.prog 104 ⟨.func, 1, 8, .nilFunc⟩ := ⟨by kernel_rfl, by kernel_rfl⟩
theorem ty105 : TdOk Tryz.prog 105 ⟨.func, 1, 8, .nilFunc⟩ := ⟨by kernel_rfl, by kernel_rfl⟩
theorem ty106 : TdOk Tryz.prog 106 ⟨.func, 1, 8, .nilFunc⟩ := ⟨by kernel_rfl, by kernel_rfl⟩
theorem ty108 : TdOk Tryz.prog 108 ⟨.func, 1, 8, .nilFunc⟩ := ⟨by kernel_rfl, by kernel_rfl⟩
theorem ty109 : TdOk Tryz.prog 109 ⟨.func, 1, 8, .nilFunc⟩ := ⟨by kernel_rfl, by kernel_rfl⟩
theorem ty111 : TdOk Tryz.prog 111 ⟨.func, 1, 8, .nilFunc⟩ := ⟨by kernel_rfl, by kernel_rfl⟩
theorem ty113 : TdOk Tryz.prog 113 ⟨.func, 1, 8, .nilFunc⟩ := ⟨by kernel_rfl, by kernel_rfl⟩
theorem ty115 : TdOk Tryz.prog 115 ⟨.func, 1, 8, .nilFunc⟩ := ⟨by kernel_rfl, by kernel_rfl⟩
theorem ty117 : TdOk Tryz.prog 117 ⟨.func, 1, 8, .nilFunc⟩ := ⟨by kernel_rfl, by kernel_rfl⟩
theorem ty118 : TdOk Tryz.prog 118 ⟨.func, 1, 8, .nilFunc⟩ := ⟨by kernel_rfl, by kernel_rfl⟩
theorem ty119 : TdOk Tryz.prog 119 ⟨.func, 1, 8, .nilFunc⟩ := ⟨by kernel_rfl, by kernel_rfl⟩
theorem ty120 : TdOk Tryz.prog 120 ⟨.func, 1, 8, .nilFunc⟩ := ⟨by kernel_rfl, by kernel_rfl⟩
theorem ty122 : TdOk Tryz.prog 122 ⟨.func, 1, 8, .nilFunc⟩ := ⟨by kernel_rfl, by kernel_rfl⟩
theorem ty124 : TdOk Tryz.prog 124 ⟨.func, 1, 8, .nilFunc⟩ := ⟨by kernel_rfl, by kernel_rfl⟩
theorem ty125 : TdOk Tryz.prog 125 ⟨.array 24 5, 24, 24, .agg #[.int .u8 0, .int .u8 0, .int .u8 0, .int .u8 0, .int .u8 0, .int .u8 0, .int .u8 0, .int .u8 0, .int .u8 0, .int .u8 0, .int .u8 0, .int .u8 0, .int .u8 0, .int .u8 0, .int .u8 0, .int .u8 0, .int .u8 0, .int .u8 0, .int .u8 0, .int .u8 0, .int .u8 0, .int .u8 0, .int .u8 0, .int .u8 0]⟩ := ⟨by kernel_rfl, by kernel_rfl⟩
theorem ty126 : TdOk Tryz.prog 126 ⟨.func, 1, 8, .nilFunc⟩ := ⟨by kernel_rfl, by kernel_rfl⟩
theorem ty127 : TdOk Tryz.prog 127 ⟨.func, 1, 8, .nilFunc⟩ := ⟨by kernel_rfl, by kernel_rfl⟩
theorem ty128 : TdOk Tryz.prog 128 ⟨.func, 1, 8, .nilFunc⟩ := ⟨by kernel_rfl, by kernel_rfl⟩
theorem ty129 : TdOk Tryz.prog 129 ⟨.func, 1, 8, .nilFunc⟩ := ⟨by kernel_rfl, by kernel_rfl⟩
theorem ty130 : TdOk Tryz.prog 130 ⟨.func, 1, 8, .nilFunc⟩ := ⟨by kernel_rfl, by kernel_rfl⟩
theorem ty131 : TdOk Tryz.prog 131 ⟨.func, 1, 8, .nilFunc⟩ := ⟨by kernel_rfl, by kernel_rfl⟩
theorem ty132 : TdOk Tryz.prog 132 ⟨.func, 1, 8, .nilFunc⟩ := ⟨by kernel_rfl, by kernel_rfl⟩
theorem ty133 : TdOk Tryz.prog 133 ⟨.func, 1, 8, .nilFunc⟩ := ⟨by kernel_rfl, by kernel_rfl⟩
theorem ty134 : TdOk Tryz.prog 134 ⟨.func, 1, 8, .nilFunc⟩ := ⟨by kernel_rfl, by kernel_rfl⟩
theorem ty136 : TdOk Tryz.prog 136 ⟨.func, 1, 8, .nilFunc⟩ := ⟨by kernel_rfl, by kernel_rfl⟩
theorem ty138 : TdOk Tryz.prog 138 ⟨.func, 1, 8, .nilFunc⟩ := ⟨by kernel_rfl, by kernel_rfl⟩
theorem ty139 : TdOk Tryz.prog 139 ⟨.ptr 141, 1, 8, .pointer none⟩ := ⟨by kernel_rfl, by kernel_rfl⟩
theorem ty140 : TdOk Tryz.prog 140 ⟨.struct [(0, 37), (1, 4)], 2, 32, .agg #[.slice none 0 0, .bool false]⟩ := ⟨by kernel_rfl, by kernel_rfl⟩
theorem ty141 : TdOk Tryz.prog 141 ⟨.struct [(0, 37), (1, 4)], 2, 32, .agg #[.slice none 0 0, .bool false]⟩ := ⟨by kernel_rfl, by kernel_rfl⟩
theorem ty142 : TdOk Tryz.prog 142 ⟨.func, 1, 8, .nilFunc⟩ := ⟨by kernel_rfl, by kernel_rfl⟩
theorem ty143 : TdOk Tryz.prog 143 ⟨.func, 1, 8, .nilFunc⟩ := ⟨by kernel_rfl, by kernel_rfl⟩
theorem ty144 : TdOk Tryz.prog 144 ⟨.func, 1, 8, .nilFunc⟩ := ⟨by kernel_rfl, by kernel_rfl⟩
theorem ty145 : TdOk Tryz.prog 145 ⟨.func, 1, 8, .nilFunc⟩ := ⟨by kernel_rfl, by kernel_rfl⟩
theorem ty146 : TdOk Tryz.prog 146 ⟨.array 3 3, 3, 24, .agg #[.int .i64 0, .int .i64 0, .int .i64 0]⟩ := ⟨by kernel_rfl, by kernel_rfl⟩
theorem ty147 : TdOk Tryz.prog 147 ⟨.func, 1, 8, .nilFunc⟩ := ⟨by kernel_rfl, by kernel_rfl⟩
theorem ty148 : TdOk Tryz.prog 148 ⟨.ptr 178, 1, 8, .pointer none⟩ := ⟨by kernel_rfl, by kernel_rfl⟩
theorem ty151 : TdOk Tryz.prog 151 ⟨.func, 1, 8, .nilFunc⟩ := ⟨by kernel_rfl, by kernel_rfl⟩
theorem ty152 : TdOk Tryz.prog 152 ⟨.func, 1, 8, .nilFunc⟩ := ⟨by kernel_rfl, by kernel_rfl⟩
theorem ty153 : TdOk Tryz.prog 153 ⟨.func, 1, 8, .nilFunc⟩ := ⟨by kernel_rfl, by kernel_rfl⟩
theorem ty154 : TdOk Tryz.prog 154 ⟨.func, 1, 8, .nilFunc⟩ := ⟨by kernel_rfl, by kernel_rfl⟩
theorem ty155 : TdOk Tryz.prog 155 ⟨.func, 1, 8, .nilFunc⟩ := ⟨by kernel_rfl, by kernel_rfl⟩
theorem ty156 : TdOk Tryz.prog 156 ⟨.array 16 34, 16, 64, .agg #[.int .u32 0, .int .u32 0, .int .u32 0, .int .u32 0, .int .u32 0, .int .u32 0, .int .u32 0, .int .u32 0, .int .u32 0, .int .u32 0, .int .u32 0, .int .u32 0, .int .u32 0, .int .u32 0, .int .u32 0, .int .u32 0]⟩ := ⟨by kernel_rfl, by kernel_rfl⟩
theorem ty157 : TdOk Tryz.prog 157 ⟨.func, 1, 8, .nilFunc⟩ := ⟨by kernel_rfl, by kernel_rfl⟩
theorem ty158 : TdOk Tryz.prog 158 ⟨.func, 1, 8, .nilFunc⟩ := ⟨by kernel_rfl, by kernel_rfl⟩
theorem ty161 : TdOk Tryz.prog 161 ⟨.func, 1, 8, .nilFunc⟩ := ⟨by kernel_rfl, by kernel_rfl⟩
theorem ty162 : TdOk Tryz.prog 162 ⟨.func, 1, 8, .nilFunc⟩ := ⟨by kernel_rfl, by kernel_rfl⟩
theorem ty163 : TdOk Tryz.prog 163 ⟨.func, 1, 8, .nilFunc⟩ := ⟨by kernel_rfl, by kernel_rfl⟩
theorem ty164 : TdOk Tryz.prog 164 ⟨.func, 1, 8, .nilFunc⟩ := ⟨by kernel_rfl, by kernel_rfl⟩
theorem ty165 : TdOk Tryz.prog 165 ⟨.func, 1, 8, .nilFunc⟩ := ⟨by kernel_rfl, by kernel_rfl⟩
theorem ty166 : TdOk Tryz.prog 166 ⟨.func, 1, 8, .nilFunc⟩ := ⟨by kernel_rfl, by kernel_rfl⟩
theorem ty167 : TdOk Tryz.prog 167 ⟨.func, 1, 8, .nilFunc⟩ := ⟨by kernel_rfl, by kernel_rfl⟩
theorem ty168 : TdOk Tryz.prog 168 ⟨.func, 1, 8, .nilFunc⟩ := ⟨by kernel_rfl, by kernel_rfl⟩
theorem ty169 : TdOk Tryz.prog 169 ⟨.ptr 171, 1, 8, .pointer none⟩ := ⟨by kernel_rfl, by kernel_rfl⟩
theorem ty170 : TdOk Tryz.prog 170 ⟨.struct [(0, 37), (1, 4)], 2, 32, .agg #[.slice none 0 0, .bool false]⟩ := ⟨by kernel_rfl, by kernel_rfl⟩
theorem ty171 : TdOk Tryz.prog 171 ⟨.struct [(0, 37), (1, 4)], 2, 32, .agg #[.slice none 0 0, .bool false]⟩ := ⟨by kernel_rfl, by kernel_rfl⟩
theorem ty172 : TdOk Tryz.prog 172 ⟨.func, 1, 8, .nilFunc⟩ := ⟨by kernel_rfl, by kernel_rfl⟩
theorem ty173 : TdOk Tryz.prog 173 ⟨.func, 1, 8, .nilFunc⟩ := ⟨by kernel_rfl, by kernel_rfl⟩
theorem ty175 : TdOk Tryz.prog 175 ⟨.func, 1, 8, .nilFunc⟩ := ⟨by kernel_rfl, by kernel_rfl⟩
theorem ty176 : TdOk Tryz.prog 176 ⟨.map 188 83, 1, 8, .map none⟩ := ⟨by kernel_rfl, by kernel_rfl⟩
theorem ty177 : TdOk Tryz.prog 177 ⟨.struct [(0, 3), (1, 3), (2, 83), (3, 176)], 4, 48, .agg #[.int .i64 0, .int .i64 0, .slice none 0 0, .map none]⟩ := ⟨by kernel_rfl, by kernel_rfl⟩
theorem ty178 : TdOk Tryz.prog 178 ⟨.struct [(0, 3), (1, 3), (2, 83), (3, 176)], 4, 48, .agg #[.int .i64 0, .int .i64 0, .slice none 0 0, .map none]⟩ := ⟨by kernel_rfl, by kernel_rfl⟩
theorem ty180 : TdOk Tryz.prog 180 ⟨.func, 1, 8, .nilFunc⟩ := ⟨by kernel_rfl, by kernel_rfl⟩
theorem ty181 : TdOk Tryz.prog 181 ⟨.func, 1, 8, .nilFunc⟩ := ⟨by kernel_rfl, by kernel_rfl⟩
theorem ty182 : TdOk Tryz.prog 182 ⟨.func, 1, 8, .nilFunc⟩ := ⟨by kernel_rfl, by kernel_rfl⟩
theorem ty184 : TdOk Tryz.prog 184 ⟨.func, 1, 8, .nilFunc⟩ := ⟨by kernel_rfl, by kernel_rfl⟩
theorem ty185 : TdOk Tryz.prog 185 ⟨.func, 1, 8, .nilFunc⟩ := ⟨by kernel_rfl, by kernel_rfl⟩
theorem ty186 : TdOk Tryz.prog 186 ⟨.ptr 3, 1, 8, .pointer none⟩ := ⟨by kernel_rfl, by kernel_rfl⟩
theorem ty187 : TdOk Tryz.prog 187 ⟨.func, 1, 8, .nilFunc⟩ := ⟨by kernel_rfl, by kernel_rfl⟩
theorem ty188 : TdOk Tryz.prog 188 ⟨.array 14 4, 14, 14, .agg #[.bool false, .bool false, .bool false, .bool false, .bool false, .bool false, .bool false, .bool false, .bool false, .bool false, .bool false, .bool false, .bool false, .bool false]⟩ := ⟨by kernel_rfl, by kernel_rfl⟩
theorem ty190 : TdOk Tryz.prog 190 ⟨.func, 1, 8, .nilFunc⟩ := ⟨by kernel_rfl, by kernel_rfl⟩
theorem ty191 : TdOk Tryz.prog 191 ⟨.func, 1, 8, .nilFunc⟩ := ⟨by kernel_rfl, by kernel_rfl⟩
theorem ty192 : TdOk Tryz.prog 192 ⟨.func, 1, 8, .nilFunc⟩ := ⟨by kernel_rfl, by kernel_rfl⟩
theorem ty193 : TdOk Tryz.prog 193 ⟨.ptr 183, 1, 8, .pointer none⟩ := ⟨by kernel_rfl, by kernel_rfl⟩
theorem ty195 : TdOk Tryz.prog 195 ⟨.func, 1, 8, .nilFunc⟩ := ⟨by kernel_rfl, by kernel_rfl⟩
theorem ty196 : TdOk Tryz.prog 196 ⟨.func, 1, 8, .nilFunc⟩ := ⟨by kernel_rfl, by kernel_rfl⟩
theorem ty197 : TdOk Tryz.prog 197 ⟨.array 64 5, 64, 64, .agg #[.int .u8 0, .int .u8 0, .int .u8 0, .int .u8 0, .int .u8 0, .int .u8 0, .int .u8 0, .int .u8 0, .int .u8 0, .int .u8 0, .int .u8 0, .int .u8 0, .int .u8 0, .int .u8 0, .int .u8 0, .int .u8 0, .int .u8 0, .int .u8 0, .int .u8 0, .int .u8 0, .int .u8 0, .int .u8 0, .int .u8 0, .int .u8 0, .int .u8 0, .int .u8 0, .int .u8 0, .int .u8 0, .int .u8 0, .int .u8 0, .int .u8 0, .int .u8 0, .int .u8 0, .int .u8 0, .int .u8 0, .int .u8 0, .int .u8 0, .int .u8 0, .int .u8 0, .int .u8 0, .int .u8 0, .int .u8 0, .int .u8 0, .int .u8 0, .int .u8 0, .int .u8 0, .int .u8 0, .int .u8 0, .int .u8 0, .int .u8 0, .int .u8 0, .int .u8 0, .int .u8 0, .int .u8 0, .int .u8 0, .int .u8 0, .int .u8 0, .int .u8 0, .int .u8 0, .int .u8 0, .int .u8 0, .int .u8 0, .int .u8 0, .int .u8 0]⟩ := ⟨by kernel_rfl, by kernel_rfl⟩
theorem ty198 : TdOk Tryz.prog 198 ⟨.func, 1, 8, .nilFunc⟩ := ⟨by kernel_rfl, by kernel_rfl⟩
theorem ty199 : TdOk Tryz.prog 199 ⟨.struct [(0, 17), (1, 17), (2, 17), (3, 9)], 4, 40, .agg #[.pointer none, .pointer none, .pointer none, .string ByteArray.empty]⟩ := ⟨by kernel_rfl, by kernel_rfl⟩
theorem ty200 : TdOk Tryz.prog 200 ⟨.struct [(0, 17), (1, 17), (2, 17), (3, 9)], 4, 40, .agg #[.pointer none, .pointer none, .pointer none, .string ByteArray.empty]⟩ := ⟨by kernel_rfl, by kernel_rfl⟩
theorem ty201 : TdOk Tryz.prog 201 ⟨.array 0 16, 0, 0, .agg #[]⟩ := ⟨by kernel_rfl, by kernel_rfl⟩
theorem ty202 : TdOk Tryz.prog 202 ⟨.struct [(0, 201)], 0, 0, .agg #[]⟩ := ⟨by kernel_rfl, by kernel_rfl⟩
theorem ty203 : TdOk Tryz.prog 203 ⟨.struct [(0, 201)], 0, 0, .agg #[]⟩ := ⟨by kernel_rfl, by kernel_rfl⟩
theorem ty206 : TdOk Tryz.prog 206 ⟨.func, 1, 8, .nilFunc⟩ := ⟨by kernel_rfl, by kernel_rfl⟩
theorem ty207 : TdOk Tryz.prog 207 ⟨.ptr 5, 1, 8, .pointer none⟩ := ⟨by kernel_rfl, by kernel_rfl⟩
theorem ty210 : TdOk Tryz.prog 210 ⟨.struct [(0, 12), (1, 12), (2, 34), (3, 204), (4, 5), (5, 5), (6, 205), (7, 206), (8, 207), (9, 208), (10, 209)], 11, 48, .agg #[.int .u64 0, .int .u64 0, .int .u32 0, .int .u8 0, .int .u8 0, .int .u8 0, .int .u8 0, .nilFunc, .pointer none, .int .i32 0, .int .i32 0]⟩ := ⟨by kernel_rfl, by kernel_rfl⟩
theorem ty211 : TdOk Tryz.prog 211 ⟨.struct [(0, 12), (1, 12), (2, 34), (3, 204), (4, 5), (5, 5), (6, 205), (7, 206), (8, 207), (9, 208), (10, 209)], 11, 48, .agg #[.int .u64 0, .int .u64 0, .int .u32 0, .int .u8 0, .int .u8 0, .int .u8 0, .int .u8 0, .nilFunc, .pointer none, .int .i32 0, .int .i32 0]⟩ := ⟨by kernel_rfl, by kernel_rfl⟩
theorem ty212 : TdOk Tryz.prog 212 ⟨.func, 1, 8, .nilFunc⟩ := ⟨by kernel_rfl, by kernel_rfl⟩
def TT : Tab := [(2, ⟨.int .i64, 1, 8, .int .i64 0⟩),
  (3, ⟨.int .i64, 1, 8, .int .i64 0⟩),
  (4, ⟨.bool, 1, 1, .bool false⟩),
  (5, ⟨.int .u8, 1, 1, .int .u8 0⟩),
  (6, ⟨.int .u8, 1, 1, .int .u8 0⟩),
  (12, ⟨.int .u64, 1, 8, .int .u64 0⟩),
  (21, ⟨.int .i32, 1, 4, .int .i32 0⟩),
  (24, ⟨.int .i64, 1, 8, .int .i64 0⟩),
  (30, ⟨.slice 42, 1, 24, .slice none 0 0⟩),
  (33, ⟨.int .u64, 1, 8, .int .u64 0⟩),
  (34, ⟨.int .u32, 1, 4, .int .u32 0⟩),
  (37, ⟨.slice 5, 1, 24, .slice none 0 0⟩),
  (40, ⟨.slice 3, 1, 24, .slice none 0 0⟩),
  (43, ⟨.slice 51, 1, 24, .slice none 0 0⟩),
  (48, ⟨.slice 39, 1, 24, .slice none 0 0⟩),
  (65, ⟨.slice 83, 1, 24, .slice none 0 0⟩),
  (66, ⟨.slice 96, 1, 24, .slice none 0 0⟩),
  (83, ⟨.slice 37, 1, 24, .slice none 0 0⟩),
  (116, ⟨.int .u64, 1, 8, .int .u64 0⟩),
  (149, ⟨.int .u32, 1, 4, .int .u32 0⟩),
  (159, ⟨.int .i64, 1, 8, .int .i64 0⟩),
  (183, ⟨.int .u64, 1, 8, .int .u64 0⟩),
  (204, ⟨.int .u8, 1, 1, .int .u8 0⟩),
  (205, ⟨.int .u8, 1, 1, .int .u8 0⟩),
  (208, ⟨.int .i32, 1, 4, .int .i32 0⟩),
  (209, ⟨.int .i32, 1, 4, .int .i32 0⟩),
  (1, ⟨.func, 1, 8, .nilFunc⟩),
  (7, ⟨.struct [(0, 2), (1, 3), (2, 4), (3, 6)], 4, 24, .agg #[.int .i64 0, .int .i64 0, .bool false, .int .u8 0]⟩),
  (8, ⟨.struct [(0, 2), (1, 3), (2, 4), (3, 6)], 4, 24, .agg #[.int .i64 0, .int .i64 0, .bool false, .int .u8 0]⟩),
  (9, ⟨.str, 1, 16, .string ByteArray.empty⟩),
  (10, ⟨.str, 1, 16, .string ByteArray.empty⟩),
  (11, ⟨.str, 1, 16, .string ByteArray.empty⟩),
  (13, ⟨.struct [(0, 9), (1, 12)], 2, 24, .agg #[.string ByteArray.empty, .int .u64 0]⟩),
  (14, ⟨.struct [(0, 9), (1, 12)], 2, 24, .agg #[.string ByteArray.empty, .int .u64 0]⟩),
  (15, ⟨.ptr 200, 1, 8, .pointer none⟩),
  (16, ⟨.ptr 203, 1, 8, .pointer none⟩),
  (17, ⟨.ptr 211, 1, 8, .pointer none⟩),
  (18, ⟨.struct [(0, 17)], 1, 8, .agg #[.pointer none]⟩),
  (19, ⟨.struct [(0, 17)], 1, 8, .agg #[.pointer none]⟩),
  (20, ⟨.iface, 1, 16, .nilIface⟩),
  (22, ⟨.func, 1, 8, .nilFunc⟩),
  (23, ⟨.ptr 60, 1, 8, .pointer none⟩),
  (26, ⟨.func, 1, 8, .nilFunc⟩),
  (27, ⟨.struct [(0, 3), (1, 3), (2, 3), (3, 3), (4, 3), (5, 3), (6, 3)], 7, 56, .agg #[.int .i64 0, .int .i64 0, .int .i64 0, .int .i64 0, .int .i64 0, .int .i64 0, .int .i64 0]⟩),
  (28, ⟨.struct [(0, 3), (1, 3), (2, 3), (3, 3), (4, 3), (5, 3), (6, 3)], 7, 56, .agg #[.int .i64 0, .int .i64 0, .int .i64 0, .int .i64 0, .int .i64 0, .int .i64 0, .int .i64 0]⟩),
  (29, ⟨.func, 1, 8, .nilFunc⟩),
  (32, ⟨.func, 1, 8, .nilFunc⟩),
  (35, ⟨.struct [(0, 3), (1, 33), (2, 34)], 3, 24, .agg #[.int .i64 0, .int .u64 0, .int .u32 0]⟩),
  (36, ⟨.struct [(0, 3), (1, 33), (2, 34)], 3, 24, .agg #[.int .i64 0, .int .u64 0, .int .u32 0]⟩),
  (38, ⟨.struct [(0, 3), (1, 36), (4, 37)], 5, 56, .agg #[.int .i64 0, .int .i64 0, .int .u64 0, .int .u32 0, .slice none 0 0]⟩),
  (39, ⟨.struct [(0, 3), (1, 36), (4, 37)], 5, 56, .agg #[.int .i64 0, .int .i64 0, .int .u64 0, .int .u32 0, .slice none 0 0]⟩),
  (41, ⟨.struct [(0, 3), (1, 3), (2, 3), (3, 40), (4, 37)], 5, 72, .agg #[.int .i64 0, .int .i64 0, .int .i64 0, .slice none 0 0, .slice none 0 0]⟩),
  (42, ⟨.struct [(0, 3), (1, 3), (2, 3), (3, 40), (4, 37)], 5, 72, .agg #[.int .i64 0, .int .i64 0, .int .i64 0, .slice none 0 0, .slice none 0 0]⟩),
  (45, ⟨.func, 1, 8, .nilFunc⟩),
  (46, ⟨.func, 1, 8, .nilFunc⟩),
  (47, ⟨.func, 1, 8, .nilFunc⟩),
  (49, ⟨.func, 1, 8, .nilFunc⟩),
  (50, ⟨.struct [(0, 3), (1, 24), (2, 36), (5, 37)], 6, 64, .agg #[.int .i64 0, .int .i64 0, .int .i64 0, .int .u64 0, .int .u32 0, .slice none 0 0]⟩),
  (51, ⟨.struct [(0, 3), (1, 24), (2, 36), (5, 37)], 6, 64, .agg #[.int .i64 0, .int .i64 0, .int .i64 0, .int .u64 0, .int .u32 0, .slice none 0 0]⟩),
  (52, ⟨.func, 1, 8, .nilFunc⟩),
  (53, ⟨.func, 1, 8, .nilFunc⟩),
  (55, ⟨.func, 1, 8, .nilFunc⟩),
  (56, ⟨.func, 1, 8, .nilFunc⟩),
  (57, ⟨.func, 1, 8, .nilFunc⟩),
  (58, ⟨.map 3 63, 1, 8, .map none⟩),
  (59, ⟨.struct [(0, 3), (1, 28), (8, 3), (9, 3), (10, 3), (11, 58), (12, 43), (13, 30)], 14, 144, .agg #[.int .i64 0, .int .i64 0, .int .i64 0, .int .i64 0, .int .i64 0, .int .i64 0, .int .i64 0, .int .i64 0, .int .i64 0, .int .i64 0, .int .i64 0, .map none, .slice none 0 0, .slice none 0 0]⟩),
  (60, ⟨.struct [(0, 3), (1, 28), (8, 3), (9, 3), (10, 3), (11, 58), (12, 43), (13, 30)], 14, 144, .agg #[.int .i64 0, .int .i64 0, .int .i64 0, .int .i64 0, .int .i64 0, .int .i64 0, .int .i64 0, .int .i64 0, .int .i64 0, .int .i64 0, .int .i64 0, .map none, .slice none 0 0, .slice none 0 0]⟩),
  (61, ⟨.func, 1, 8, .nilFunc⟩),
  (62, ⟨.func, 1, 8, .nilFunc⟩),
  (63, ⟨.ptr 70, 1, 8, .pointer none⟩),
  (64, ⟨.map 3 4, 1, 8, .map none⟩),
  (67, ⟨.struct [(0, 65), (1, 3), (2, 66), (3, 4)], 4, 64, .agg #[.slice none 0 0, .int .i64 0, .slice none 0 0, .bool false]⟩),
  (68, ⟨.struct [(0, 65), (1, 3), (2, 66), (3, 4)], 4, 64, .agg #[.slice none 0 0, .int .i64 0, .slice none 0 0, .bool false]⟩),
  (69, ⟨.struct [(0, 3), (1, 39), (6, 34), (7, 3), (8, 3), (9, 3), (10, 3), (11, 3), (12, 24), (13, 37), (14, 3), (15, 40), (16, 3), (17, 64), (18, 3), (19, 3), (20, 68)], 24, 272, .agg #[.int .i64 0, .int .i64 0, .int .i64 0, .int .u64 0, .int .u32 0, .slice none 0 0, .int .u32 0, .int .i64 0, .int .i64 0, .int .i64 0, .int .i64 0, .int .i64 0, .int .i64 0, .slice none 0 0, .int .i64 0, .slice none 0 0, .int .i64 0, .map none, .int .i64 0, .int .i64 0, .slice none 0 0, .int .i64 0, .slice none 0 0, .bool false]⟩),
  (70, ⟨.struct [(0, 3), (1, 39), (6, 34), (7, 3), (8, 3), (9, 3), (10, 3), (11, 3), (12, 24), (13, 37), (14, 3), (15, 40), (16, 3), (17, 64), (18, 3), (19, 3), (20, 68)], 24, 272, .agg #[.int .i64 0, .int .i64 0, .int .i64 0, .int .u64 0, .int .u32 0, .slice none 0 0, .int .u32 0, .int .i64 0, .int .i64 0, .int .i64 0, .int .i64 0, .int .i64 0, .int .i64 0, .slice none 0 0, .int .i64 0, .slice none 0 0, .int .i64 0, .map none, .int .i64 0, .int .i64 0, .slice none 0 0, .int .i64 0, .slice none 0 0, .bool false]⟩),
  (71, ⟨.func, 1, 8, .nilFunc⟩),
  (72, ⟨.func, 1, 8, .nilFunc⟩),
  (73, ⟨.array 7 3, 7, 56, .agg #[.int .i64 0, .int .i64 0, .int .i64 0, .int .i64 0, .int .i64 0, .int .i64 0, .int .i64 0]⟩),
  (74, ⟨.func, 1, 8, .nilFunc⟩),
  (75, ⟨.func, 1, 8, .nilFunc⟩),
  (76, ⟨.func, 1, 8, .nilFunc⟩),
  (77, ⟨.func, 1, 8, .nilFunc⟩),
  (78, ⟨.func, 1, 8, .nilFunc⟩),
  (79, ⟨.func, 1, 8, .nilFunc⟩),
  (80, ⟨.func, 1, 8, .nilFunc⟩),
  (81, ⟨.func, 1, 8, .nilFunc⟩),
  (82, ⟨.func, 1, 8, .nilFunc⟩),
  (85, ⟨.func, 1, 8, .nilFunc⟩),
  (86, ⟨.func, 1, 8, .nilFunc⟩),
  (87, ⟨.func, 1, 8, .nilFunc⟩),
  (88, ⟨.func, 1, 8, .nilFunc⟩),
  (89, ⟨.func, 1, 8, .nilFunc⟩),
  (90, ⟨.func, 1, 8, .nilFunc⟩),
  (91, ⟨.func, 1, 8, .nilFunc⟩),
  (92, ⟨.ptr 68, 1, 8, .pointer none⟩),
  (94, ⟨.func, 1, 8, .nilFunc⟩),
  (95, ⟨.struct [(0, 33), (1, 3), (2, 3), (3, 34), (4, 4)], 5, 32, .agg #[.int .u64 0, .int .i64 0, .int .i64 0, .int .u32 0, .bool false]⟩),
  (96, ⟨.struct [(0, 33), (1, 3), (2, 3), (3, 34), (4, 4)], 5, 32, .agg #[.int .u64 0, .int .i64 0, .int .i64 0, .int .u32 0, .bool false]⟩),
  (97, ⟨.func, 1, 8, .nilFunc⟩),
  (98, ⟨.func, 1, 8, .nilFunc⟩),
  (100, ⟨.func, 1, 8, .nilFunc⟩),
  (101, ⟨.struct [(0, 33), (1, 34), (2, 4), (3, 37)], 4, 40, .agg #[.int .u64 0, .int .u32 0, .bool false, .slice none 0 0]⟩),
  (102, ⟨.struct [(0, 33), (1, 34), (2, 4), (3, 37)], 4, 40, .agg #[.int .u64 0, .int .u32 0, .bool false, .slice none 0 0]⟩),
  (104, ⟨.func, 1, 8, .nilFunc⟩),
  (105, ⟨.func, 1, 8, .nilFunc⟩),
  (106, ⟨.func, 1, 8, .nilFunc⟩),
  (108, ⟨.func, 1, 8, .nilFunc⟩),
  (109, ⟨.func, 1, 8, .nilFunc⟩),
  (111, ⟨.func, 1, 8, .nilFunc⟩),
  (113, ⟨.func, 1, 8, .nilFunc⟩),
  (115, ⟨.func, 1, 8, .nilFunc⟩),
  (117, ⟨.func, 1, 8, .nilFunc⟩),
  (118, ⟨.func, 1, 8, .nilFunc⟩),
  (119, ⟨.func, 1, 8, .nilFunc⟩),
  (120, ⟨.func, 1, 8, .nilFunc⟩),
  (122, ⟨.func, 1, 8, .nilFunc⟩),
  (124, ⟨.func, 1, 8, .nilFunc⟩),
  (125, ⟨.array 24 5, 24, 24, .agg #[.int .u8 0, .int .u8 0, .int .u8 0, .int .u8 0, .int .u8 0, .int .u8 0, .int .u8 0, .int .u8 0, .int .u8 0, .int .u8 0, .int .u8 0, .int .u8 0, .int .u8 0, .int .u8 0, .int .u8 0, .int .u8 0, .int .u8 0, .int .u8 0, .int .u8 0, .int .u8 0, .int .u8 0, .int .u8 0, .int .u8 0, .int .u8 0]⟩),
  (126, ⟨.func, 1, 8, .nilFunc⟩),
  (127, ⟨.func, 1, 8, .nilFunc⟩),
  (128, ⟨.func, 1, 8, .nilFunc⟩),
  (129, ⟨.func, 1, 8, .nilFunc⟩),
  (130, ⟨.func, 1, 8, .nilFunc⟩),
  (131, ⟨.func, 1, 8, .nilFunc⟩),
  (132, ⟨.func, 1, 8, .nilFunc⟩),
  (133, ⟨.func, 1, 8, .nilFunc⟩),
  (134, ⟨.func, 1, 8, .nilFunc⟩),
  (136, ⟨.func, 1, 8, .nilFunc⟩),
  (138, ⟨.func, 1, 8, .nilFunc⟩),
  (139, ⟨.ptr 141, 1, 8, .pointer none⟩),
  (140, ⟨.struct [(0, 37), (1, 4)], 2, 32, .agg #[.slice none 0 0, .bool false]⟩),
  (141, ⟨.struct [(0, 37), (1, 4)], 2, 32, .agg #[.slice none 0 0, .bool false]⟩),
  (142, ⟨.func, 1, 8, .nilFunc⟩),
  (143, ⟨.func, 1, 8, .nilFunc⟩),
  (144, ⟨.func, 1, 8, .nilFunc⟩),
  (145, ⟨.func, 1, 8, .nilFunc⟩),
  (146, ⟨.array 3 3, 3, 24, .agg #[.int .i64 0, .int .i64 0, .int .i64 0]⟩),
  (147, ⟨.func, 1, 8, .nilFunc⟩),
  (148, ⟨.ptr 178, 1, 8, .pointer none⟩),
  (151, ⟨.func, 1, 8, .nilFunc⟩),
  (152, ⟨.func, 1, 8, .nilFunc⟩),
  (153, ⟨.func, 1, 8, .nilFunc⟩),
  (154, ⟨.func, 1, 8, .nilFunc⟩),
  (155, ⟨.func, 1, 8, .nilFunc⟩),
  (156, ⟨.array 16 34, 16, 64, .agg #[.int .u32 0, .int .u32 0, .int .u32 0, .int .u32 0, .int .u32 0, .int .u32 0, .int .u32 0, .int .u32 0, .int .u32 0, .int .u32 0, .int .u32 0, .int .u32 0, .int .u32 0, .int .u32 0, .int .u32 0, .int .u32 0]⟩),
  (157, ⟨.func, 1, 8, .nilFunc⟩),
  (158, ⟨.func, 1, 8, .nilFunc⟩),
  (161, ⟨.func, 1, 8, .nilFunc⟩),
  (162, ⟨.func, 1, 8, .nilFunc⟩),
  (163, ⟨.func, 1, 8, .nilFunc⟩),
  (164, ⟨.func, 1, 8, .nilFunc⟩),
  (165, ⟨.func, 1, 8, .nilFunc⟩),
  (166, ⟨.func, 1, 8, .nilFunc⟩),
  (167, ⟨.func, 1, 8, .nilFunc⟩),
  (168, ⟨.func, 1, 8, .nilFunc⟩),
  (169, ⟨.ptr 171, 1, 8, .pointer none⟩),
  (170, ⟨.struct [(0, 37), (1, 4)], 2, 32, .agg #[.slice none 0 0, .bool false]⟩),
  (171, ⟨.struct [(0, 37), (1, 4)], 2, 32, .agg #[.slice none 0 0, .bool false]⟩),
  (172, ⟨.func, 1, 8, .nilFunc⟩),
  (173, ⟨.func, 1, 8, .nilFunc⟩),
  (175, ⟨.func, 1, 8, .nilFunc⟩),
  (176, ⟨.map 188 83, 1, 8, .map none⟩),
  (177, ⟨.struct [(0, 3), (1, 3), (2, 83), (3, 176)], 4, 48, .agg #[.int .i64 0, .int .i64 0, .slice none 0 0, .map none]⟩),
  (178, ⟨.struct [(0, 3), (1, 3), (2, 83), (3, 176)], 4, 48, .agg #[.int .i64 0, .int .i64 0, .slice none 0 0, .map none]⟩),
  (180, ⟨.func, 1, 8, .nilFunc⟩),
  (181, ⟨.func, 1, 8, .nilFunc⟩),
  (182, ⟨.func, 1, 8, .nilFunc⟩),
  (184, ⟨.func, 1, 8, .nilFunc⟩),
  (185, ⟨.func, 1, 8, .nilFunc⟩),
  (186, ⟨.ptr 3, 1, 8, .pointer none⟩),
  (187, ⟨.func, 1, 8, .nilFunc⟩),
  (188, ⟨.array 14 4, 14, 14, .agg #[.bool false, .bool false, .bool false, .bool false, .bool false, .bool false, .bool false, .bool false, .bool false, .bool false, .bool false, .bool false, .bool false, .bool false]⟩),
  (190, ⟨.func, 1, 8, .nilFunc⟩),
  (191, ⟨.func, 1, 8, .nilFunc⟩),
  (192, ⟨.func, 1, 8, .nilFunc⟩),
  (193, ⟨.ptr 183, 1, 8, .pointer none⟩),
  (195, ⟨.func, 1, 8, .nilFunc⟩),
  (196, ⟨.func, 1, 8, .nilFunc⟩),
  (197, ⟨.array 64 5, 64, 64, .agg #[.int .u8 0, .int .u8 0, .int .u8 0, .int .u8 0, .int .u8 0, .int .u8 0, .int .u8 0, .int .u8 0, .int .u8 0, .int .u8 0, .int .u8 0, .int .u8 0, .int .u8 0, .int .u8 0, .int .u8 0, .int .u8 0, .int .u8 0, .int .u8 0, .int .u8 0, .int .u8 0, .int .u8 0, .int .u8 0, .int .u8 0, .int .u8 0, .int .u8 0, .int .u8 0, .int .u8 0, .int .u8 0, .int .u8 0, .int .u8 0, .int .u8 0, .int .u8 0, .int .u8 0, .int .u8 0, .int .u8 0, .int .u8 0, .int .u8 0, .int .u8 0, .int .u8 0, .int .u8 0, .int .u8 0, .int .u8 0, .int .u8 0, .int .u8 0, .int .u8 0, .int .u8 0, .int .u8 0, .int .u8 0, .int .u8 0, .int .u8 0, .int .u8 0, .int .u8 0, .int .u8 0, .int .u8 0, .int .u8 0, .int .u8 0, .int .u8 0, .int .u8 0, .int .u8 0, .int .u8 0, .int .u8 0, .int .u8 0, .int .u8 0, .int .u8 0]⟩),
  (198, ⟨.func, 1, 8, .nilFunc⟩),
  (199, ⟨.struct [(0, 17), (1, 17), (2, 17), (3, 9)], 4, 40, .agg #[.pointer none, .pointer none, .pointer none, .string ByteArray.empty]⟩),
  (200, ⟨.struct [(0, 17), (1, 17), (2, 17), (3, 9)], 4, 40, .agg #[.pointer none, .pointer none, .pointer none, .string ByteArray.empty]⟩),
  (201, ⟨.array 0 16, 0, 0, .agg #[]⟩),
  (202, ⟨.struct [(0, 201)], 0, 0, .agg #[]⟩),
  (203, ⟨.struct [(0, 201)], 0, 0, .agg #[]⟩),
  (206, ⟨.func, 1, 8, .nilFunc⟩),
  (207, ⟨.ptr 5, 1, 8, .pointer none⟩),
  (210, ⟨.struct [(0, 12), (1, 12), (2, 34), (3, 204), (4, 5), (5, 5), (6, 205), (7, 206), (8, 207), (9, 208), (10, 209)], 11, 48, .agg #[.int .u64 0, .int .u64 0, .int .u32 0, .int .u8 0, .int .u8 0, .int .u8 0, .int .u8 0, .nilFunc, .pointer none, .int .i32 0, .int .i32 0]⟩),
  (211, ⟨.struct [(0, 12), (1, 12), (2, 34), (3, 204), (4, 5), (5, 5), (6, 205), (7, 206), (8, 207), (9, 208), (10, 209)], 11, 48, .agg #[.int .u64 0, .int .u64 0, .int .u32 0, .int .u8 0, .int .u8 0, .int .u8 0, .int .u8 0, .nilFunc, .pointer none, .int .i32 0, .int .i32 0]⟩),
  (212, ⟨.func, 1, 8, .nilFunc⟩)]
theorem ttOk : TabOk Tryz.prog TT := tabOk_cons ty2 <| tabOk_cons ty3 <| tabOk_cons ty4 <| tabOk_cons ty5 <| tabOk_cons ty6 <| tabOk_cons ty12 <| tabOk_cons ty21 <| tabOk_cons ty24 <| tabOk_cons ty30 <| tabOk_cons ty33 <| tabOk_cons ty34 <| tabOk_cons ty37 <| tabOk_cons ty40 <| tabOk_cons ty43 <| tabOk_cons ty48 <| tabOk_cons ty65 <| tabOk_cons ty66 <| tabOk_cons ty83 <| tabOk_cons ty116 <| tabOk_cons ty149 <| tabOk_cons ty159 <| tabOk_cons ty183 <| tabOk_cons ty204 <| tabOk_cons ty205 <| tabOk_cons ty208 <| tabOk_cons ty209 <| tabOk_cons ty1 <| tabOk_cons ty7 <| tabOk_cons ty8 <| tabOk_cons ty9 <| tabOk_cons ty10 <| tabOk_cons ty11 <| tabOk_cons ty13 <| tabOk_cons ty14 <| tabOk_cons ty15 <| tabOk_cons ty16 <| tabOk_cons ty17 <| tabOk_cons ty18 <| tabOk_cons ty19 <| tabOk_cons ty20 <| tabOk_cons ty22 <| tabOk_cons ty23 <| tabOk_cons ty26 <| tabOk_cons ty27 <| tabOk_cons ty28 <| tabOk_cons ty29 <| tabOk_cons ty32 <| tabOk_cons ty35 <| tabOk_cons ty36 <| tabOk_cons ty38 <| tabOk_cons ty39 <| tabOk_cons ty41 <| tabOk_cons ty42 <| tabOk_cons ty45 <| tabOk_cons ty46 <| tabOk_cons ty47 <| tabOk_cons ty49 <| tabOk_cons ty50 <| tabOk_cons ty51 <| tabOk_cons ty52 <| tabOk_cons ty53 <| tabOk_cons ty55 <| tabOk_cons ty56 <| tabOk_cons ty57 <| tabOk_cons ty58 <| tabOk_cons ty59 <| tabOk_cons ty60 <| tabOk_cons ty61 <| tabOk_cons ty62 <| tabOk_cons ty63 <| tabOk_cons ty64 <| tabOk_cons ty67 <| tabOk_cons ty68 <| tabOk_cons ty69 <| tabOk_cons ty70 <| tabOk_cons ty71 <| tabOk_cons ty72 <| tabOk_cons ty73 <| tabOk_cons ty74 <| tabOk_cons ty75 <| tabOk_cons ty76 <| tabOk_cons ty77 <| tabOk_cons ty78 <| tabOk_cons ty79 <| tabOk_cons ty80 <| tabOk_cons ty81 <| tabOk_cons ty82 <| tabOk_cons ty85 <| tabOk_cons ty86 <| tabOk_cons ty87 <| tabOk_cons ty88 <| tabOk_cons ty89 <| tabOk_cons ty90 <| tabOk_cons ty91 <| tabOk_cons ty92 <| tabOk_cons ty94 <| tabOk_cons ty95 <| tabOk_cons ty96 <| tabOk_cons ty97 <| tabOk_cons ty98 <| tabOk_cons ty100 <| tabOk_cons ty101 <| tabOk_cons ty102 <| tabOk_cons ty104 <| tabOk_cons ty105 <| tabOk_cons ty106 <| tabOk_cons ty108 <| tabOk_cons ty109 <| tabOk_cons ty111 <| tabOk_cons ty113 <| tabOk_cons ty115 <| tabOk_cons ty117 <| tabOk_cons ty118 <| tabOk_cons ty119 <| tabOk_cons ty120 <| tabOk_cons ty122 <| tabOk_cons ty124 <| tabOk_cons ty125 <| tabOk_cons ty126 <| tabOk_cons ty127 <| tabOk_cons ty128 <| tabOk_cons ty129 <| tabOk_cons ty130 <| tabOk_cons ty131 <| tabOk_cons ty132 <| tabOk_cons ty133 <| tabOk_cons ty134 <| tabOk_cons ty136 <| tabOk_cons ty138 <| tabOk_cons ty139 <| tabOk_cons ty140 <| tabOk_cons ty141 <| tabOk_cons ty142 <| tabOk_cons ty143 <| tabOk_cons ty144 <| tabOk_cons ty145 <| tabOk_cons ty146 <| tabOk_cons ty147 <| tabOk_cons ty148 <| tabOk_cons ty151 <| tabOk_cons ty152 <| tabOk_cons ty153 <| tabOk_cons ty154 <| tabOk_cons ty155 <| tabOk_cons ty156 <| tabOk_cons ty157 <| tabOk_cons ty158 <| tabOk_cons ty161 <| tabOk_cons ty162 <| tabOk_cons ty163 <| tabOk_cons ty164 <| tabOk_cons ty165 <| tabOk_cons ty166 <| tabOk_cons ty167 <| tabOk_cons ty168 <| tabOk_cons ty169 <| tabOk_cons ty170 <| tabOk_cons ty171 <| tabOk_cons ty172 <| tabOk_cons ty173 <| tabOk_cons ty175 <| tabOk_cons ty176 <| tabOk_cons ty177 <| tabOk_cons ty178 <| tabOk_cons ty180 <| tabOk_cons ty181 <| tabOk_cons ty182 <| tabOk_cons ty184 <| tabOk_cons ty185 <| tabOk_cons ty186 <| tabOk_cons ty187 <| tabOk_cons ty188 <| tabOk_cons ty190 <| tabOk_cons ty191 <| tabOk_cons ty192 <| tabOk_cons ty193 <| tabOk_cons ty195 <| tabOk_cons ty196 <| tabOk_cons ty197 <| tabOk_cons ty198 <| tabOk_cons ty199 <| tabOk_cons ty200 <| tabOk_cons ty201 <| tabOk_cons ty202 <| tabOk_cons ty203 <| tabOk_cons ty206 <| tabOk_cons ty207 <| tabOk_cons ty210 <| tabOk_cons ty211 <| tabOk_cons ty212 <| tabOk_nil
theorem tl2 : look TT 2 = some ⟨.int .i64, 1, 8, .int .i64 0⟩ := rfl
theorem tl3 : look TT 3 = some ⟨.int .i64, 1, 8, .int .i64 0⟩ := rfl
theorem tl4 : look TT 4 = some ⟨.bool, 1, 1, .bool false⟩ := rfl
theorem tl5 : look TT 5 = some ⟨.int .u8, 1, 1, .int .u8 0⟩ := rfl
theorem tl6 : look TT 6 = some ⟨.int .u8, 1, 1, .int .u8 0⟩ := rfl
theorem tl12 : look TT 12 = some ⟨.int .u64, 1, 8, .int .u64 0⟩ := rfl
theorem tl21 : look TT 21 = some ⟨.int .i32, 1, 4, .int .i32 0⟩ := rfl
theorem tl24 : look TT 24 = some ⟨.int .i64, 1, 8, .int .i64 0⟩ := rfl
theorem tl30 : look TT 30 = some ⟨.slice 42, 1, 24, .slice none 0 0⟩ := rfl
theorem tl33 : look TT 33 = some ⟨.int .u64, 1, 8, .int .u64 0⟩ := rfl
theorem tl34 : look TT 34 = some ⟨.int .u32, 1, 4, .int .u32 0⟩ := rfl
theorem tl37 : look TT 37 = some ⟨.slice 5, 1, 24, .slice none 0 0⟩ := rfl
theorem tl40 : look TT 40 = some ⟨.slice 3, 1, 24, .slice none 0 0⟩ := rfl
theorem tl43 : look TT 43 = some ⟨.slice 51, 1, 24, .slice none 0 0⟩ := rfl
theorem tl48 : look TT 48 = some ⟨.slice 39, 1, 24, .slice none 0 0⟩ := rfl
theorem tl65 : look TT 65 = some ⟨.slice 83, 1, 24, .slice none 0 0⟩ := rfl
theorem tl66 : look TT 66 = some ⟨.slice 96, 1, 24, .slice none 0 0⟩ := rfl
theorem tl83 : look TT 83 = some ⟨.slice 37, 1, 24, .slice none 0 0⟩ := rfl
theorem tl116 : look TT 116 = some ⟨.int .u64, 1, 8, .int .u64 0⟩ := rfl
theorem tl149 : look TT 149 = some ⟨.int .u32, 1, 4, .int .u32 0⟩ := rfl
theorem tl159 : look TT 159 = some ⟨.int .i64, 1, 8, .int .i64 0⟩ := rfl
theorem tl183 : look TT 183 = some ⟨.int .u64, 1, 8, .int .u64 0⟩ := rfl
theorem tl204 : look TT 204 = some ⟨.int .u8, 1, 1, .int .u8 0⟩ := rfl
theorem tl205 : look TT 205 = some ⟨.int .u8, 1, 1, .int .u8 0⟩ := rfl
theorem tl208 : look TT 208 = some ⟨.int .i32, 1, 4, .int .i32 0⟩ := rfl
theorem tl209 : look TT 209 = some ⟨.int .i32, 1, 4, .int .i32 0⟩ := rfl
theorem tl1 : look TT 1 = some ⟨.func, 1, 8, .nilFunc⟩ := rfl
theorem tl7 : look TT 7 = some ⟨.struct [(0, 2), (1, 3), (2, 4), (3, 6)], 4, 24, .agg #[.int .i64 0, .int .i64 0, .bool false, .int .u8 0]⟩ := rfl
theorem tl8 : look TT 8 = some ⟨.struct [(0, 2), (1, 3), (2, 4), (3, 6)], 4, 24, .agg #[.int .i64 0, .int .i64 0, .bool false, .int .u8 0]⟩ := rfl
theorem tl9 : look TT 9 = some ⟨.str, 1, 16, .string ByteArray.empty⟩ := rfl
theorem tl10 : look TT 10 = some ⟨.str, 1, 16, .string ByteArray.empty⟩ := rfl
theorem tl11 : look TT 11 = some ⟨.str, 1, 16, .string ByteArray.empty⟩ := rfl
theorem tl13 : look TT 13 = some ⟨.struct [(0, 9), (1, 12)], 2, 24, .agg #[.string ByteArray.empty, .int .u64 0]⟩ := rfl
theorem tl14 : look TT 14 = some ⟨.struct [(0, 9), (1, 12)], 2, 24, .agg #[.string ByteArray.empty, .int .u64 0]⟩ := rfl
theorem tl15 : look TT 15 = some ⟨.ptr 200, 1, 8, .pointer none⟩ := rfl
theorem tl16 : look TT 16 = some ⟨.ptr 203, 1, 8, .pointer none⟩ := rfl
theorem tl17 : look TT 17 = some ⟨.ptr 211, 1, 8, .pointer none⟩ := rfl
theorem tl18 : look TT 18 = some ⟨.struct [(0, 17)], 1, 8, .agg #[.pointer none]⟩ := rfl
theorem tl19 : look TT 19 = some ⟨.struct [(0, 17)], 1, 8, .agg #[.pointer none]⟩ := rfl
theorem tl20 : look TT 20 = some ⟨.iface, 1, 16, .nilIface⟩ := rfl
theorem tl22 : look TT 22 = some ⟨.func, 1, 8, .nilFunc⟩ := rfl
theorem tl23 : look TT 23 = some ⟨.ptr 60, 1, 8, .pointer none⟩ := rfl
theorem tl26 : look TT 26 = some ⟨.func, 1, 8, .nilFunc⟩ := rfl
theorem tl27 : look TT 27 = some ⟨.struct [(0, 3), (1, 3), (2, 3), (3, 3), (4, 3), (5, 3), (6, 3)], 7, 56, .agg #[.int .i64 0, .int .i64 0, .int .i64 0, .int .i64 0, .int .i64 0, .int .i64 0, .int .i64 0]⟩ := rfl
theorem tl28 : look TT 28 = some ⟨.struct [(0, 3), (1, 3), (2, 3), (3, 3), (4, 3), (5, 3), (6, 3)], 7, 56, .agg #[.int .i64 0, .int .i64 0, .int .i64 0, .int .i64 0, .int .i64 0, .int .i64 0, .int .i64 0]⟩ := rfl
theorem tl29 : look TT 29 = some ⟨.func, 1, 8, .nilFunc⟩ := rfl
theorem tl32 : look TT 32 = some ⟨.func, 1, 8, .nilFunc⟩ := rfl
theorem tl35 : look TT 35 = some ⟨.struct [(0, 3), (1, 33), (2, 34)], 3, 24, .agg #[.int .i64 0, .int .u64 0, .int .u32 0]⟩ := rfl
theorem tl36 : look TT 36 = some ⟨.struct [(0, 3), (1, 33), (2, 34)], 3, 24, .agg #[.int .i64 0, .int .u64 0, .int .u32 0]⟩ := rfl
theorem tl38 : look TT 38 = some ⟨.struct [(0, 3), (1, 36), (4, 37)], 5, 56, .agg #[.int .i64 0, .int .i64 0, .int .u64 0, .int .u32 0, .slice none 0 0]⟩ := rfl
theorem tl39 : look TT 39 = some ⟨.struct [(0, 3), (1, 36), (4, 37)], 5, 56, .agg #[.int .i64 0, .int .i64 0, .int .u64 0, .int .u32 0, .slice none 0 0]⟩ := rfl
theorem tl41 : look TT 41 = some ⟨.struct [(0, 3), (1, 3), (2, 3), (3, 40), (4, 37)], 5, 72, .agg #[.int .i64 0, .int .i64 0, .int .i64 0, .slice none 0 0, .slice none 0 0]⟩ := rfl
theorem tl42 : look TT 42 = some ⟨.struct [(0, 3), (1, 3), (2, 3), (3, 40), (4, 37)], 5, 72, .agg #[.int .i64 0, .int .i64 0, .int .i64 0, .slice none 0 0, .slice none 0 0]⟩ := rfl
theorem tl45 : look TT 45 = some ⟨.func, 1, 8, .nilFunc⟩ := rfl
theorem tl46 : look TT 46 = some ⟨.func, 1, 8, .nilFunc⟩ := rfl
theorem tl47 : look TT 47 = some ⟨.func, 1, 8, .nilFunc⟩ := rfl
theorem tl49 : look TT 49 = some ⟨.func, 1, 8, .nilFunc⟩ := rfl
theorem tl50 : look TT 50 = some ⟨.struct [(0, 3), (1, 24), (2, 36), (5, 37)], 6, 64, .agg #[.int .i64 0, .int .i64 0, .int .i64 0, .int .u64 0, .int .u32 0, .slice none 0 0]⟩ := rfl
theorem tl51 : look TT 51 = some ⟨.struct [(0, 3), (1, 24), (2, 36), (5, 37)], 6, 64, .agg #[.int .i64 0, .int .i64 0, .int .i64 0, .int .u64 0, .int .u32 0, .slice none 0 0]⟩ := rfl
theorem tl52 : look TT 52 = some ⟨.func, 1, 8, .nilFunc⟩ := rfl
theorem tl53 : look TT 53 = some ⟨.func, 1, 8, .nilFunc⟩ := rfl
theorem tl55 : look TT 55 = some ⟨.func, 1, 8, .nilFunc⟩ := rfl
theorem tl56 : look TT 56 = some ⟨.func, 1, 8, .nilFunc⟩ := rfl
theorem tl57 : look TT 57 = some ⟨.func, 1, 8, .nilFunc⟩ := rfl
theorem tl58 : look TT 58 = some ⟨.map 3 63, 1, 8, .map none⟩ := rfl
theorem tl59 : look TT 59 = some ⟨.struct [(0, 3), (1, 28), (8, 3), (9, 3), (10, 3), (11, 58), (12, 43), (13, 30)], 14, 144, .agg #[.int .i64 0, .int .i64 0, .int .i64 0, .int .i64 0, .int .i64 0, .int .i64 0, .int .i64 0, .int .i64 0, .int .i64 0, .int .i64 0, .int .i64 0, .map none, .slice none 0 0, .slice none 0 0]⟩ := rfl
theorem tl60 : look TT 60 = some ⟨.struct [(0, 3), (1, 28), (8, 3), (9, 3), (10, 3), (11, 58), (12, 43), (13, 30)], 14, 144, .agg #[.int .i64 0, .int .i64 0, .int .i64 0, .int .i64 0, .int .i64 0, .int .i64 0, .int .i64 0, .int .i64 0, .int .i64 0, .int .i64 0, .int .i64 0, .map none, .slice none 0 0, .slice none 0 0]⟩ := rfl
theorem tl61 : look TT 61 = some ⟨.func, 1, 8, .nilFunc⟩ := rfl
theorem tl62 : look TT 62 = some ⟨.func, 1, 8, .nilFunc⟩ := rfl
theorem tl63 : look TT 63 = some ⟨.ptr 70, 1, 8, .pointer none⟩ := rfl
theorem tl64 : look TT 64 = some ⟨.map 3 4, 1, 8, .map none⟩ := rfl
theorem tl67 : look TT 67 = some ⟨.struct [(0, 65), (1, 3), (2, 66), (3, 4)], 4, 64, .agg #[.slice none 0 0, .int .i64 0, .slice none 0 0, .bool false]⟩ := rfl
theorem tl68 : look TT 68 = some ⟨.struct [(0, 65), (1, 3), (2, 66), (3, 4)], 4, 64, .agg #[.slice none 0 0, .int .i64 0, .slice none 0 0, .bool false]⟩ := rfl
theorem tl69 : look TT 69 = some ⟨.struct [(0, 3), (1, 39), (6, 34), (7, 3), (8, 3), (9, 3), (10, 3), (11, 3), (12, 24), (13, 37), (14, 3), (15, 40), (16, 3), (17, 64), (18, 3), (19, 3), (20, 68)], 24, 272, .agg #[.int .i64 0, .int .i64 0, .int .i64 0, .int .u64 0, .int .u32 0, .slice none 0 0, .int .u32 0, .int .i64 0, .int .i64 0, .int .i64 0, .int .i64 0, .int .i64 0, .int .i64 0, .slice none 0 0, .int .i64 0, .slice none 0 0, .int .i64 0, .map none, .int .i64 0, .int .i64 0, .slice none 0 0, .int .i64 0, .slice none 0 0, .bool false]⟩ := rfl
theorem tl70 : look TT 70 = some ⟨.struct [(0, 3), (1, 39), (6, 34), (7, 3), (8, 3), (9, 3), (10, 3), (11, 3), (12, 24), (13, 37), (14, 3), (15, 40), (16, 3), (17, 64), (18, 3), (19, 3), (20, 68)], 24, 272, .agg #[.int .i64 0, .int .i64 0, .int .i64 0, .int .u64 0, .int .u32 0, .slice none 0 0, .int .u32 0, .int .i64 0, .int .i64 0, .int .i64 0, .int .i64 0, .int .i64 0, .int .i64 0, .slice none 0 0, .int .i64 0, .slice none 0 0, .int .i64 0, .map none, .int .i64 0, .int .i64 0, .slice none 0 0, .int .i64 0, .slice none 0 0, .bool false]⟩ := rfl
theorem tl71 : look TT 71 = some ⟨.func, 1, 8, .nilFunc⟩ := rfl
theorem tl72 : look TT 72 = some ⟨.func, 1, 8, .nilFunc⟩ := rfl
theorem tl73 : look TT 73 = some ⟨.array 7 3, 7, 56, .agg #[.int .i64 0, .int .i64 0, .int .i64 0, .int .i64 0, .int .i64 0, .int .i64 0, .int .i64 0]⟩ := rfl
theorem tl74 : look TT 74 = some ⟨.func, 1, 8, .nilFunc⟩ := rfl
theorem tl75 : look TT 75 = some ⟨.func, 1, 8, .nilFunc⟩ := rfl
theorem tl76 : look TT 76 = some ⟨.func, 1, 8, .nilFunc⟩ := rfl
theorem tl77 : look TT 77 = some ⟨.func, 1, 8, .nilFunc⟩ := rfl
theorem tl78 : look TT 78 = some ⟨.func, 1, 8, .nilFunc⟩ := rfl
theorem tl79 : look TT 79 = some ⟨.func, 1, 8, .nilFunc⟩ := rfl
theorem tl80 : look TT 80 = some ⟨.func, 1, 8, .nilFunc⟩ := rfl
theorem tl81 : look TT 81 = some ⟨.func, 1, 8, .nilFunc⟩ := rfl
theorem tl82 : look TT 82 = some ⟨.func, 1, 8, .nilFunc⟩ := rfl
theorem tl85 : look TT 85 = some ⟨.func, 1, 8, .nilFunc⟩ := rfl
theorem tl86 : look TT 86 = some ⟨.func, 1, 8, .nilFunc⟩ := rfl
theorem tl87 : look TT 87 = some ⟨.func, 1, 8, .nilFunc⟩ := rfl
theorem tl88 : look TT 88 = some ⟨.func, 1, 8, .nilFunc⟩ := rfl
theorem tl89 : look TT 89 = some ⟨.func, 1, 8, .nilFunc⟩ := rfl
theorem tl90 : look TT 90 = some ⟨.func, 1, 8, .nilFunc⟩ := rfl
theorem tl91 : look TT 91 = some ⟨.func, 1, 8, .nilFunc⟩ := rfl
theorem tl92 : look TT 92 = some ⟨.ptr 68, 1, 8, .pointer none⟩ := rfl
theorem tl94 : look TT 94 = some ⟨.func, 1, 8, .nilFunc⟩ := rfl
theorem tl95 : look TT 95 = some ⟨.struct [(0, 33), (1, 3), (2, 3), (3, 34), (4, 4)], 5, 32, .agg #[.int .u64 0, .int .i64 0, .int .i64 0, .int .u32 0, .bool false]⟩ := rfl
theorem tl96 : look TT 96 = some ⟨.struct [(0, 33), (1, 3), (2, 3), (3, 34), (4, 4)], 5, 32, .agg #[.int .u64 0, .int .i64 0, .int .i64 0, .int .u32 0, .bool false]⟩ := rfl
theorem tl97 : look TT 97 = some ⟨.func, 1, 8, .nilFunc⟩ := rfl
theorem tl98 : look TT 98 = some ⟨.func, 1, 8, .nilFunc⟩ := rfl
theorem tl100 : look TT 100 = some ⟨.func, 1, 8, .nilFunc⟩ := rfl
theorem tl101 : look TT 101 = some ⟨.struct [(0, 33), (1, 34), (2, 4), (3, 37)], 4, 40, .agg #[.int .u64 0, .int .u32 0, .bool false, .slice none 0 0]⟩ := rfl
theorem tl102 : look TT 102 = some ⟨.struct [(0, 33), (1, 34), (2, 4), (3, 37)], 4, 40, .agg #[.int .u64 0, .int .u32 0, .bool false, .slice none 0 0]⟩ := rfl
theorem tl104 : look TT 104 = some ⟨.func, 1, 8, .nilFunc⟩ := rfl
theorem tl105 : look TT 105 = some ⟨.func, 1, 8, .nilFunc⟩ := rfl
theorem tl106 : look TT 106 = some ⟨.func, 1, 8, .nilFunc⟩ := rfl
theorem tl108 : look TT 108 = some ⟨.func, 1, 8, .nilFunc⟩ := rfl
theorem tl109 : look TT 109 = some ⟨.func, 1, 8, .nilFunc⟩ := rfl
theorem tl111 : look TT 111 = some ⟨.func, 1, 8, .nilFunc⟩ := rfl
theorem tl113 : look TT 113 = some ⟨.func, 1, 8, .nilFunc⟩ := rfl
theorem tl115 : look TT 115 = some ⟨.func, 1, 8, .nilFunc⟩ := rfl
theorem tl117 : look TT 117 = some ⟨.func, 1, 8, .nilFunc⟩ := rfl
theorem tl118 : look TT 118 = some ⟨.func, 1, 8, .nilFunc⟩ := rfl
theorem tl119 : look TT 119 = some ⟨.func, 1, 8, .nilFunc⟩ := rfl
theorem tl120 : look TT 120 = some ⟨.func, 1, 8, .nilFunc⟩ := rfl
theorem tl122 : look TT 122 = some ⟨.func, 1, 8, .nilFunc⟩ := rfl
theorem tl124 : look TT 124 = some ⟨.func, 1, 8, .nilFunc⟩ := rfl
theorem tl125 : look TT 125 = some ⟨.array 24 5, 24, 24, .agg #[.int .u8 0, .int .u8 0, .int .u8 0, .int .u8 0, .int .u8 0, .int .u8 0, .int .u8 0, .int .u8 0, .int .u8 0, .int .u8 0, .int .u8 0, .int .u8 0, .int .u8 0, .int .u8 0, .int .u8 0, .int .u8 0, .int .u8 0, .int .u8 0, .int .u8 0, .int .u8 0, .int .u8 0, .int .u8 0, .int .u8 0, .int .u8 0]⟩ := rfl
theorem tl126 : look TT 126 = some ⟨.func, 1, 8, .nilFunc⟩ := rfl
theorem tl127 : look TT 127 = some ⟨.func, 1, 8, .nilFunc⟩ := rfl
theorem tl128 : look TT 128 = some ⟨.func, 1, 8, .nilFunc⟩ := rfl
theorem tl129 : look TT 129 = some ⟨.func, 1, 8, .nilFunc⟩ := rfl
theorem tl130 : look TT 130 = some ⟨.func, 1, 8, .nilFunc⟩ := rfl
theorem tl131 : look TT 131 = some ⟨.func, 1, 8, .nilFunc⟩ := rfl
theorem tl132 : look TT 132 = some ⟨.func, 1, 8, .nilFunc⟩ := rfl
theorem tl133 : look TT 133 = some ⟨.func, 1, 8, .nilFunc⟩ := rfl
theorem tl134 : look TT 134 = some ⟨.func, 1, 8, .nilFunc⟩ := rfl
theorem tl136 : look TT 136 = some ⟨.func, 1, 8, .nilFunc⟩ := rfl
theorem tl138 : look TT 138 = some ⟨.func, 1, 8, .nilFunc⟩ := rfl
theorem tl139 : look TT 139 = some ⟨.ptr 141, 1, 8, .pointer none⟩ := rfl
theorem tl140 : look TT 140 = some ⟨.struct [(0, 37), (1, 4)], 2, 32, .agg #[.slice none 0 0, .bool false]⟩ := rfl
theorem tl141 : look TT 141 = some ⟨.struct [(0, 37), (1, 4)], 2, 32, .agg #[.slice none 0 0, .bool false]⟩ := rfl
theorem tl142 : look TT 142 = some ⟨.func, 1, 8, .nilFunc⟩ := rfl
theorem tl143 : look TT 143 = some ⟨.func, 1, 8, .nilFunc⟩ := rfl
theorem tl144 : look TT 144 = some ⟨.func, 1, 8, .nilFunc⟩ := rfl
theorem tl145 : look TT 145 = some ⟨.func, 1, 8, .nilFunc⟩ := rfl
theorem tl146 : look TT 146 = some ⟨.array 3 3, 3, 24, .agg #[.int .i64 0, .int .i64 0, .int .i64 0]⟩ := rfl
theorem tl147 : look TT 147 = some ⟨.func, 1, 8, .nilFunc⟩ := rfl
theorem tl148 : look TT 148 = some ⟨.ptr 178, 1, 8, .pointer none⟩ := rfl
theorem tl151 : look TT 151 = some ⟨.func, 1, 8, .nilFunc⟩ := rfl
theorem tl152 : look TT 152 = some ⟨.func, 1, 8, .nilFunc⟩ := rfl
theorem tl153 : look TT 153 = some ⟨.func, 1, 8, .nilFunc⟩ := rfl
theorem tl154 : look TT 154 = some ⟨.func, 1, 8, .nilFunc⟩ := rfl
theorem tl155 : look TT 155 = some ⟨.func, 1, 8, .nilFunc⟩ := rfl
theorem tl156 : look TT 156 = some ⟨.array 16 34, 16, 64, .agg #[.int .u32 0, .int .u32 0, .int .u32 0, .int .u32 0, .int .u32 0, .int .u32 0, .int .u32 0, .int .u32 0, .int .u32 0, .int .u32 0, .int .u32 0, .int .u32 0, .int .u32 0, .int .u32 0, .int .u32 0, .int .u32 0]⟩ := rfl
theorem tl157 : look TT 157 = some ⟨.func, 1, 8, .nilFunc⟩ := rfl
theorem tl158 : look TT 158 = some ⟨.func, 1, 8, .nilFunc⟩ := rfl
theorem tl161 : look TT 161 = some ⟨.func, 1, 8, .nilFunc⟩ := rfl
theorem tl162 : look TT 162 = some ⟨.func, 1, 8, .nilFunc⟩ := rfl
theorem tl163 : look TT 163 = some ⟨.func, 1, 8, .nilFunc⟩ := rfl
theorem tl164 : look TT 164 = some ⟨.func, 1, 8, .nilFunc⟩ := rfl
theorem tl165 : look TT 165 = some ⟨.func, 1, 8, .nilFunc⟩ := rfl
theorem tl166 : look TT 166 = some ⟨.func, 1, 8, .nilFunc⟩ := rfl
theorem tl167 : look TT 167 = some ⟨.func, 1, 8, .nilFunc⟩ := rfl
theorem tl168 : look TT 168 = some ⟨.func, 1, 8, .nilFunc⟩ := rfl
theorem tl169 : look TT 169 = some ⟨.ptr 171, 1, 8, .pointer none⟩ := rfl
theorem tl170 : look TT 170 = some ⟨.struct [(0, 37), (1, 4)], 2, 32, .agg #[.slice none 0 0, .bool false]⟩ := rfl
theorem tl171 : look TT 171 = some ⟨.struct [(0, 37), (1, 4)], 2, 32, .agg #[.slice none 0 0, .bool false]⟩ := rfl
theorem tl172 : look TT 172 = some ⟨.func, 1, 8, .nilFunc⟩ := rfl
theorem tl173 : look TT 173 = some ⟨.func, 1, 8, .nilFunc⟩ := rfl
theorem tl175 : look TT 175 = some ⟨.func, 1, 8, .nilFunc⟩ := rfl
theorem tl176 : look TT 176 = some ⟨.map 188 83, 1, 8, .map none⟩ := rfl
theorem tl177 : look TT 177 = some ⟨.struct [(0, 3), (1, 3), (2, 83), (3, 176)], 4, 48, .agg #[.int .i64 0, .int .i64 0, .slice none 0 0, .map none]⟩ := rfl
theorem tl178 : look TT 178 = some ⟨.struct [(0, 3), (1, 3), (2, 83), (3, 176)], 4, 48, .agg #[.int .i64 0, .int .i64 0, .slice none 0 0, .map none]⟩ := rfl
theorem tl180 : look TT 180 = some ⟨.func, 1, 8, .nilFunc⟩ := rfl
theorem tl181 : look TT 181 = some ⟨.func, 1, 8, .nilFunc⟩ := rfl
theorem tl182 : look TT 182 = some ⟨.func, 1, 8, .nilFunc⟩ := rfl
theorem tl184 : look TT 184 = some ⟨.func, 1, 8, .nilFunc⟩ := rfl
theorem tl185 : look TT 185 = some ⟨.func, 1, 8, .nilFunc⟩ := rfl
theorem tl186 : look TT 186 = some ⟨.ptr 3, 1, 8, .pointer none⟩ := rfl
theorem tl187 : look TT 187 = some ⟨.func, 1, 8, .nilFunc⟩ := rfl
theorem tl188 : look TT 188 = some ⟨.array 14 4, 14, 14, .agg #[.bool false, .bool false, .bool false, .bool false, .bool false, .bool false, .bool false, .bool false, .bool false, .bool false, .bool false, .bool false, .bool false, .bool false]⟩ := rfl
theorem tl190 : look TT 190 = some ⟨.func, 1, 8, .nilFunc⟩ := rfl
theorem tl191 : look TT 191 = some ⟨.func, 1, 8, .nilFunc⟩ := rfl
theorem tl192 : look TT 192 = some ⟨.func, 1, 8, .nilFunc⟩ := rfl
theorem tl193 : look TT 193 = some ⟨.ptr 183, 1, 8, .pointer none⟩ := rfl
theorem tl195 : look TT 195 = some ⟨.func, 1, 8, .nilFunc⟩ := rfl
theorem tl196 : look TT 196 = some ⟨.func, 1, 8, .nilFunc⟩ := rfl
theorem tl197 : look TT 197 = some ⟨.array 64 5, 64, 64, .agg #[.int .u8 0, .int .u8 0, .int .u8 0, .int .u8 0, .int .u8 0, .int .u8 0, .int .u8 0, .int .u8 0, .int .u8 0, .int .u8 0, .int .u8 0, .int .u8 0, .int .u8 0, .int .u8 0, .int .u8 0, .int .u8 0, .int .u8 0, .int .u8 0, .int .u8 0, .int .u8 0, .int .u8 0, .int .u8 0, .int .u8 0, .int .u8 0, .int .u8 0, .int .u8 0, .int .u8 0, .int .u8 0, .int .u8 0, .int .u8 0, .int .u8 0, .int .u8 0, .int .u8 0, .int .u8 0, .int .u8 0, .int .u8 0, .int .u8 0, .int .u8 0, .int .u8 0, .int .u8 0, .int .u8 0, .int .u8 0, .int .u8 0, .int .u8 0, .int .u8 0, .int .u8 0, .int .u8 0, .int .u8 0, .int .u8 0, .int .u8 0, .int .u8 0, .int .u8 0, .int .u8 0, .int .u8 0, .int .u8 0, .int .u8 0, .int .u8 0, .int .u8 0, .int .u8 0, .int .u8 0, .int .u8 0, .int .u8 0, .int .u8 0, .int .u8 0]⟩ := rfl
theorem tl198 : look TT 198 = some ⟨.func, 1, 8, .nilFunc⟩ := rfl
theorem tl199 : look TT 199 = some ⟨.struct [(0, 17), (1, 17), (2, 17), (3, 9)], 4, 40, .agg #[.pointer none, .pointer none, .pointer none, .string ByteArray.empty]⟩ := rfl
theorem tl200 : look TT 200 = some ⟨.struct [(0, 17), (1, 17), (2, 17), (3, 9)], 4, 40, .agg #[.pointer none, .pointer none, .pointer none, .string ByteArray.empty]⟩ := rfl
theorem tl201 : look TT 201 = some ⟨.array 0 16, 0, 0, .agg #[]⟩ := rfl
theorem tl202 : look TT 202 = some ⟨.struct [(0, 201)], 0, 0, .agg #[]⟩ := rfl
theorem tl203 : look TT 203 = some ⟨.struct [(0, 201)], 0, 0, .agg #[]⟩ := rfl
theorem tl206 : look TT 206 = some ⟨.func, 1, 8, .nilFunc⟩ := rfl
theorem tl207 : look TT 207 = some ⟨.ptr 5, 1, 8, .pointer none⟩ := rfl
theorem tl210 : look TT 210 = some ⟨.struct [(0, 12), (1, 12), (2, 34), (3, 204), (4, 5), (5, 5), (6, 205), (7, 206), (8, 207), (9, 208), (10, 209)], 11, 48, .agg #[.int .u64 0, .int .u64 0, .int .u32 0, .int .u8 0, .int .u8 0, .int .u8 0, .int .u8 0, .nilFunc, .pointer none, .int .i32 0, .int .i32 0]⟩ := rfl
theorem tl211 : look TT 211 = some ⟨.struct [(0, 12), (1, 12), (2, 34), (3, 204), (4, 5), (5, 5), (6, 205), (7, 206), (8, 207), (9, 208), (10, 209)], 11, 48, .agg #[.int .u64 0, .int .u64 0, .int .u32 0, .int .u8 0, .int .u8 0, .int .u8 0, .int .u8 0, .nilFunc, .pointer none, .int .i32 0, .int .i32 0]⟩ := rfl
theorem tl212 : look TT 212 = some ⟨.func, 1, 8, .nilFunc⟩ := rfl
theorem mixed : Tryz.prog.follows .mixedOrders = true := by kernel_rfl
end Go.Proofs.YtcjnaljdbbjojaaGreatDoor
