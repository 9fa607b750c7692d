/- The table of this translation's types, printed by gen_types.py. Nothing is claimed here. -/
import Derived.Test.YteclfkffgnfmpaaVu
import Derived.Test.YteclfkffgnfmpaaChecked
namespace Go.Proofs.Yteclfkffgnfmpaa
theorem ty2 : TdOk Try.prog 2 ⟨.int .i64, 1, 8, .int .i64 0⟩ := ⟨by kernel_rfl, by kernel_rfl⟩
theorem ty3 : TdOk Try.prog 3 ⟨.int .i64, 1, 8, .int .i64 0⟩ := ⟨by kernel_rfl, by kernel_rfl⟩
theorem ty4 : TdOk Try.prog 4 ⟨.bool, 1, 1, .bool false⟩ := ⟨by kernel_rfl, by kernel_rfl⟩
theorem ty5 : TdOk Try.prog 5 ⟨.int .u8, 1, 1, .int .u8 0⟩ := ⟨by kernel_rfl, by kernel_rfl⟩
theorem ty6 : TdOk Try.prog 6 ⟨.int .u8, 1, 1, .int .u8 0⟩ := ⟨by kernel_rfl, by kernel_rfl⟩
theorem ty12 : TdOk Try.prog 12 ⟨.int .u64, 1, 8, .int .u64 0⟩ := ⟨by kernel_rfl, by kernel_rfl⟩
theorem ty21 : TdOk Try.prog 21 ⟨.int .i32, 1, 4, .int .i32 0⟩ := ⟨by kernel_rfl, by kernel_rfl⟩
theorem ty22 : TdOk Try.prog 22 ⟨.int .u32, 1, 4, .int .u32 0⟩ := ⟨by kernel_rfl, by kernel_rfl⟩
theorem ty25 : TdOk Try.prog 25 ⟨.int .u64, 1, 8, .int .u64 0⟩ := ⟨by kernel_rfl, by kernel_rfl⟩
theorem ty28 : TdOk Try.prog 28 ⟨.slice 5, 1, 24, .slice none 0 0⟩ := ⟨by kernel_rfl, by kernel_rfl⟩
theorem ty29 : TdOk Try.prog 29 ⟨.int .i64, 1, 8, .int .i64 0⟩ := ⟨by kernel_rfl, by kernel_rfl⟩
theorem ty38 : TdOk Try.prog 38 ⟨.slice 49, 1, 24, .slice none 0 0⟩ := ⟨by kernel_rfl, by kernel_rfl⟩
theorem ty44 : TdOk Try.prog 44 ⟨.slice 47, 1, 24, .slice none 0 0⟩ := ⟨by kernel_rfl, by kernel_rfl⟩
theorem ty56 : TdOk Try.prog 56 ⟨.slice 60, 1, 24, .slice none 0 0⟩ := ⟨by kernel_rfl, by kernel_rfl⟩
theorem ty73 : TdOk Try.prog 73 ⟨.slice 78, 1, 24, .slice none 0 0⟩ := ⟨by kernel_rfl, by kernel_rfl⟩
theorem ty82 : TdOk Try.prog 82 ⟨.slice 30, 1, 24, .slice none 0 0⟩ := ⟨by kernel_rfl, by kernel_rfl⟩
theorem ty84 : TdOk Try.prog 84 ⟨.slice 3, 1, 24, .slice none 0 0⟩ := ⟨by kernel_rfl, by kernel_rfl⟩
theorem ty87 : TdOk Try.prog 87 ⟨.int .u64, 1, 8, .int .u64 0⟩ := ⟨by kernel_rfl, by kernel_rfl⟩
theorem ty88 : TdOk Try.prog 88 ⟨.slice 29, 1, 24, .slice none 0 0⟩ := ⟨by kernel_rfl, by kernel_rfl⟩
theorem ty96 : TdOk Try.prog 96 ⟨.int .u8, 1, 1, .int .u8 0⟩ := ⟨by kernel_rfl, by kernel_rfl⟩
theorem ty97 : TdOk Try.prog 97 ⟨.int .u8, 1, 1, .int .u8 0⟩ := ⟨by kernel_rfl, by kernel_rfl⟩
theorem ty100 : TdOk Try.prog 100 ⟨.int .i32, 1, 4, .int .i32 0⟩ := ⟨by kernel_rfl, by kernel_rfl⟩
theorem ty101 : TdOk Try.prog 101 ⟨.int .i32, 1, 4, .int .i32 0⟩ := ⟨by kernel_rfl, by kernel_rfl⟩
theorem ty1 : TdOk Try.prog 1 ⟨.func, 1, 8, .nilFunc⟩ := ⟨by kernel_rfl, by kernel_rfl⟩
theorem ty7 : TdOk Try.prog 7 ⟨.struct [(0, 2), (1, 3), (2, 4), (3, 6)], 4, 24, .agg #[.int .i64 0, .int .i64 0, .bool false, .int .u8 0]⟩ := ⟨by kernel_rfl, by kernel_rfl⟩
theorem ty8 : TdOk Try.prog 8 ⟨.struct [(0, 2), (1, 3), (2, 4), (3, 6)], 4, 24, .agg #[.int .i64 0, .int .i64 0, .bool false, .int .u8 0]⟩ := ⟨by kernel_rfl, by kernel_rfl⟩
theorem ty9 : TdOk Try.prog 9 ⟨.str, 1, 16, .string ByteArray.empty⟩ := ⟨by kernel_rfl, by kernel_rfl⟩
theorem ty10 : TdOk Try.prog 10 ⟨.str, 1, 16, .string ByteArray.empty⟩ := ⟨by kernel_rfl, by kernel_rfl⟩
theorem ty11 : TdOk Try.prog 11 ⟨.str, 1, 16, .string ByteArray.empty⟩ := ⟨by kernel_rfl, by kernel_rfl⟩
theorem ty13 : TdOk Try.prog 13 ⟨.struct [(0, 9), (1, 12)], 2, 24, .agg #[.string ByteArray.empty, .int .u64 0]⟩ := ⟨by kernel_rfl, by kernel_rfl⟩
theorem ty14 : TdOk Try.prog 14 ⟨.struct [(0, 9), (1, 12)], 2, 24, .agg #[.string ByteArray.empty, .int .u64 0]⟩ := ⟨by kernel_rfl, by kernel_rfl⟩
theorem ty15 : TdOk Try.prog 15 ⟨.ptr 91, 1, 8, .pointer none⟩ := ⟨by kernel_rfl, by kernel_rfl⟩
theorem ty16 : TdOk Try.prog 16 ⟨.ptr 94, 1, 8, .pointer none⟩ := ⟨by kernel_rfl, by kernel_rfl⟩
theorem ty17 : TdOk Try.prog 17 ⟨.ptr 103, 1, 8, .pointer none⟩ := ⟨by kernel_rfl, by kernel_rfl⟩
theorem ty18 : TdOk Try.prog 18 ⟨.struct [(0, 17)], 1, 8, .agg #[.pointer none]⟩ := ⟨by kernel_rfl, by kernel_rfl⟩
theorem ty19 : TdOk Try.prog 19 ⟨.struct [(0, 17)], 1, 8, .agg #[.pointer none]⟩ := ⟨by kernel_rfl, by kernel_rfl⟩
theorem ty20 : TdOk Try.prog 20 ⟨.iface, 1, 16, .nilIface⟩ := ⟨by kernel_rfl, by kernel_rfl⟩
theorem ty23 : TdOk Try.prog 23 ⟨.struct [(0, 3), (1, 22), (2, 9)], 3, 32, .agg #[.int .i64 0, .int .u32 0, .string ByteArray.empty]⟩ := ⟨by kernel_rfl, by kernel_rfl⟩
theorem ty24 : TdOk Try.prog 24 ⟨.struct [(0, 3), (1, 22), (2, 9)], 3, 32, .agg #[.int .i64 0, .int .u32 0, .string ByteArray.empty]⟩ := ⟨by kernel_rfl, by kernel_rfl⟩
theorem ty26 : TdOk Try.prog 26 ⟨.struct [(0, 3), (1, 25), (2, 22)], 3, 24, .agg #[.int .i64 0, .int .u64 0, .int .u32 0]⟩ := ⟨by kernel_rfl, by kernel_rfl⟩
theorem ty27 : TdOk Try.prog 27 ⟨.struct [(0, 3), (1, 25), (2, 22)], 3, 24, .agg #[.int .i64 0, .int .u64 0, .int .u32 0]⟩ := ⟨by kernel_rfl, by kernel_rfl⟩
theorem ty30 : TdOk Try.prog 30 ⟨.struct [(0, 3), (1, 22), (2, 9)], 3, 32, .agg #[.int .i64 0, .int .u32 0, .string ByteArray.empty]⟩ := ⟨by kernel_rfl, by kernel_rfl⟩
theorem ty32 : TdOk Try.prog 32 ⟨.func, 1, 8, .nilFunc⟩ := ⟨by kernel_rfl, by kernel_rfl⟩
theorem ty34 : TdOk Try.prog 34 ⟨.func, 1, 8, .nilFunc⟩ := ⟨by kernel_rfl, by kernel_rfl⟩
theorem ty35 : TdOk Try.prog 35 ⟨.func, 1, 8, .nilFunc⟩ := ⟨by kernel_rfl, by kernel_rfl⟩
theorem ty36 : TdOk Try.prog 36 ⟨.func, 1, 8, .nilFunc⟩ := ⟨by kernel_rfl, by kernel_rfl⟩
theorem ty37 : TdOk Try.prog 37 ⟨.func, 1, 8, .nilFunc⟩ := ⟨by kernel_rfl, by kernel_rfl⟩
theorem ty39 : TdOk Try.prog 39 ⟨.func, 1, 8, .nilFunc⟩ := ⟨by kernel_rfl, by kernel_rfl⟩
theorem ty41 : TdOk Try.prog 41 ⟨.func, 1, 8, .nilFunc⟩ := ⟨by kernel_rfl, by kernel_rfl⟩
theorem ty43 : TdOk Try.prog 43 ⟨.func, 1, 8, .nilFunc⟩ := ⟨by kernel_rfl, by kernel_rfl⟩
theorem ty45 : TdOk Try.prog 45 ⟨.array 2 24, 6, 64, .agg #[.int .i64 0, .int .u32 0, .string ByteArray.empty, .int .i64 0, .int .u32 0, .string ByteArray.empty]⟩ := ⟨by kernel_rfl, by kernel_rfl⟩
theorem ty46 : TdOk Try.prog 46 ⟨.struct [(0, 3), (1, 3), (2, 22), (3, 5), (4, 29), (5, 5)], 6, 40, .agg #[.int .i64 0, .int .i64 0, .int .u32 0, .int .u8 0, .int .i64 0, .int .u8 0]⟩ := ⟨by kernel_rfl, by kernel_rfl⟩
theorem ty47 : TdOk Try.prog 47 ⟨.struct [(0, 3), (1, 3), (2, 22), (3, 5), (4, 29), (5, 5)], 6, 40, .agg #[.int .i64 0, .int .i64 0, .int .u32 0, .int .u8 0, .int .i64 0, .int .u8 0]⟩ := ⟨by kernel_rfl, by kernel_rfl⟩
theorem ty48 : TdOk Try.prog 48 ⟨.struct [(0, 3), (1, 4), (2, 3), (3, 27), (6, 28), (7, 29)], 8, 80, .agg #[.int .i64 0, .bool false, .int .i64 0, .int .i64 0, .int .u64 0, .int .u32 0, .slice none 0 0, .int .i64 0]⟩ := ⟨by kernel_rfl, by kernel_rfl⟩
theorem ty49 : TdOk Try.prog 49 ⟨.struct [(0, 3), (1, 4), (2, 3), (3, 27), (6, 28), (7, 29)], 8, 80, .agg #[.int .i64 0, .bool false, .int .i64 0, .int .i64 0, .int .u64 0, .int .u32 0, .slice none 0 0, .int .i64 0]⟩ := ⟨by kernel_rfl, by kernel_rfl⟩
theorem ty50 : TdOk Try.prog 50 ⟨.func, 1, 8, .nilFunc⟩ := ⟨by kernel_rfl, by kernel_rfl⟩
theorem ty51 : TdOk Try.prog 51 ⟨.func, 1, 8, .nilFunc⟩ := ⟨by kernel_rfl, by kernel_rfl⟩
theorem ty52 : TdOk Try.prog 52 ⟨.func, 1, 8, .nilFunc⟩ := ⟨by kernel_rfl, by kernel_rfl⟩
theorem ty53 : TdOk Try.prog 53 ⟨.func, 1, 8, .nilFunc⟩ := ⟨by kernel_rfl, by kernel_rfl⟩
theorem ty54 : TdOk Try.prog 54 ⟨.func, 1, 8, .nilFunc⟩ := ⟨by kernel_rfl, by kernel_rfl⟩
theorem ty55 : TdOk Try.prog 55 ⟨.func, 1, 8, .nilFunc⟩ := ⟨by kernel_rfl, by kernel_rfl⟩
theorem ty58 : TdOk Try.prog 58 ⟨.func, 1, 8, .nilFunc⟩ := ⟨by kernel_rfl, by kernel_rfl⟩
theorem ty59 : TdOk Try.prog 59 ⟨.map 64 4, 1, 8, .map none⟩ := ⟨by kernel_rfl, by kernel_rfl⟩
theorem ty60 : TdOk Try.prog 60 ⟨.ptr 62, 1, 8, .pointer none⟩ := ⟨by kernel_rfl, by kernel_rfl⟩
theorem ty61 : TdOk Try.prog 61 ⟨.struct [(0, 3), (1, 27), (4, 28), (5, 4), (6, 29), (7, 28), (8, 3), (9, 3)], 10, 112, .agg #[.int .i64 0, .int .i64 0, .int .u64 0, .int .u32 0, .slice none 0 0, .bool false, .int .i64 0, .slice none 0 0, .int .i64 0, .int .i64 0]⟩ := ⟨by kernel_rfl, by kernel_rfl⟩
theorem ty62 : TdOk Try.prog 62 ⟨.struct [(0, 3), (1, 27), (4, 28), (5, 4), (6, 29), (7, 28), (8, 3), (9, 3)], 10, 112, .agg #[.int .i64 0, .int .i64 0, .int .u64 0, .int .u32 0, .slice none 0 0, .bool false, .int .i64 0, .slice none 0 0, .int .i64 0, .int .i64 0]⟩ := ⟨by kernel_rfl, by kernel_rfl⟩
theorem ty63 : TdOk Try.prog 63 ⟨.struct [(0, 3), (1, 25)], 2, 16, .agg #[.int .i64 0, .int .u64 0]⟩ := ⟨by kernel_rfl, by kernel_rfl⟩
theorem ty64 : TdOk Try.prog 64 ⟨.struct [(0, 3), (1, 25)], 2, 16, .agg #[.int .i64 0, .int .u64 0]⟩ := ⟨by kernel_rfl, by kernel_rfl⟩
theorem ty65 : TdOk Try.prog 65 ⟨.map 64 56, 1, 8, .map none⟩ := ⟨by kernel_rfl, by kernel_rfl⟩
theorem ty66 : TdOk Try.prog 66 ⟨.ptr 69, 1, 8, .pointer none⟩ := ⟨by kernel_rfl, by kernel_rfl⟩
theorem ty67 : TdOk Try.prog 67 ⟨.map 72 4, 1, 8, .map none⟩ := ⟨by kernel_rfl, by kernel_rfl⟩
theorem ty68 : TdOk Try.prog 68 ⟨.struct [(0, 56), (1, 67)], 2, 32, .agg #[.slice none 0 0, .map none]⟩ := ⟨by kernel_rfl, by kernel_rfl⟩
theorem ty69 : TdOk Try.prog 69 ⟨.struct [(0, 56), (1, 67)], 2, 32, .agg #[.slice none 0 0, .map none]⟩ := ⟨by kernel_rfl, by kernel_rfl⟩
theorem ty70 : TdOk Try.prog 70 ⟨.func, 1, 8, .nilFunc⟩ := ⟨by kernel_rfl, by kernel_rfl⟩
theorem ty71 : TdOk Try.prog 71 ⟨.struct [(0, 22), (1, 30)], 4, 40, .agg #[.int .u32 0, .int .i64 0, .int .u32 0, .string ByteArray.empty]⟩ := ⟨by kernel_rfl, by kernel_rfl⟩
theorem ty72 : TdOk Try.prog 72 ⟨.struct [(0, 22), (1, 30)], 4, 40, .agg #[.int .u32 0, .int .i64 0, .int .u32 0, .string ByteArray.empty]⟩ := ⟨by kernel_rfl, by kernel_rfl⟩
theorem ty75 : TdOk Try.prog 75 ⟨.func, 1, 8, .nilFunc⟩ := ⟨by kernel_rfl, by kernel_rfl⟩
theorem ty76 : TdOk Try.prog 76 ⟨.func, 1, 8, .nilFunc⟩ := ⟨by kernel_rfl, by kernel_rfl⟩
theorem ty77 : TdOk Try.prog 77 ⟨.struct [(0, 3), (1, 27), (4, 28), (5, 29), (6, 28), (7, 3), (8, 3), (9, 4)], 10, 112, .agg #[.int .i64 0, .int .i64 0, .int .u64 0, .int .u32 0, .slice none 0 0, .int .i64 0, .slice none 0 0, .int .i64 0, .int .i64 0, .bool false]⟩ := ⟨by kernel_rfl, by kernel_rfl⟩
theorem ty78 : TdOk Try.prog 78 ⟨.struct [(0, 3), (1, 27), (4, 28), (5, 29), (6, 28), (7, 3), (8, 3), (9, 4)], 10, 112, .agg #[.int .i64 0, .int .i64 0, .int .u64 0, .int .u32 0, .slice none 0 0, .int .i64 0, .slice none 0 0, .int .i64 0, .int .i64 0, .bool false]⟩ := ⟨by kernel_rfl, by kernel_rfl⟩
theorem ty79 : TdOk Try.prog 79 ⟨.func, 1, 8, .nilFunc⟩ := ⟨by kernel_rfl, by kernel_rfl⟩
theorem ty80 : TdOk Try.prog 80 ⟨.map 86 4, 1, 8, .map none⟩ := ⟨by kernel_rfl, by kernel_rfl⟩
theorem ty81 : TdOk Try.prog 81 ⟨.map 3 60, 1, 8, .map none⟩ := ⟨by kernel_rfl, by kernel_rfl⟩
theorem ty83 : TdOk Try.prog 83 ⟨.func, 1, 8, .nilFunc⟩ := ⟨by kernel_rfl, by kernel_rfl⟩
theorem ty85 : TdOk Try.prog 85 ⟨.struct [(0, 3), (1, 24)], 4, 40, .agg #[.int .i64 0, .int .i64 0, .int .u32 0, .string ByteArray.empty]⟩ := ⟨by kernel_rfl, by kernel_rfl⟩
theorem ty86 : TdOk Try.prog 86 ⟨.struct [(0, 3), (1, 24)], 4, 40, .agg #[.int .i64 0, .int .i64 0, .int .u32 0, .string ByteArray.empty]⟩ := ⟨by kernel_rfl, by kernel_rfl⟩
theorem ty89 : TdOk Try.prog 89 ⟨.func, 1, 8, .nilFunc⟩ := ⟨by kernel_rfl, by kernel_rfl⟩
theorem ty90 : TdOk Try.prog 90 ⟨.struct [(0, 17), (1, 17), (2, 17), (3, 9)], 4, 40, .agg #[.pointer none, .pointer none, .pointer none, .string ByteArray.empty]⟩ := ⟨by kernel_rfl, by kernel_rfl⟩
theorem ty91 : TdOk Try.prog 91 ⟨.struct [(0, 17), (1, 17), (2, 17), (3, 9)], 4, 40, .agg #[.pointer none, .pointer none, .pointer none, .string ByteArray.empty]⟩ := ⟨by kernel_rfl, by kernel_rfl⟩
theorem ty92 : TdOk Try.prog 92 ⟨.array 0 16, 0, 0, .agg #[]⟩ := ⟨by kernel_rfl, by kernel_rfl⟩
theorem ty93 : TdOk Try.prog 93 ⟨.struct [(0, 92)], 0, 0, .agg #[]⟩ := ⟨by kernel_rfl, by kernel_rfl⟩
theorem ty94 : TdOk Try.prog 94 ⟨.struct [(0, 92)], 0, 0, .agg #[]⟩ := ⟨by kernel_rfl, by kernel_rfl⟩
theorem ty95 : TdOk Try.prog 95 ⟨.func, 1, 8, .nilFunc⟩ := ⟨by kernel_rfl, by kernel_rfl⟩
theorem ty98 : TdOk Try.prog 98 ⟨.func, 1, 8, .nilFunc⟩ := ⟨by kernel_rfl, by kernel_rfl⟩
theorem ty99 : TdOk Try.prog 99 ⟨.ptr 5, 1, 8, .pointer none⟩ := ⟨by kernel_rfl, by kernel_rfl⟩
theorem ty102 : TdOk Try.prog 102 ⟨.struct [(0, 12), (1, 12), (2, 22), (3, 96), (4, 5), (5, 5), (6, 97), (7, 98), (8, 99), (9, 100), (10, 101)], 11, 48, .agg #[.int .u64 0, .int .u64 0, .int .u32 0, .int .u8 0, .int .u8 0, .int .u8 0, .int .u8 0, .nilFunc, .pointer none, .int .i32 0, .int .i32 0]⟩ := ⟨by kernel_rfl, by kernel_rfl⟩
theorem ty103 : TdOk Try.prog 103 ⟨.struct [(0, 12), (1, 12), (2, 22), (3, 96), (4, 5), (5, 5), (6, 97), (7, 98), (8, 99), (9, 100), (10, 101)], 11, 48, .agg #[.int .u64 0, .int .u64 0, .int .u32 0, .int .u8 0, .int .u8 0, .int .u8 0, .int .u8 0, .nilFunc, .pointer none, .int .i32 0, .int .i32 0]⟩ := ⟨by kernel_rfl, by kernel_rfl⟩
def TT : Tab := [(2, ⟨.int .i64, 1, 8, .int .i64 0⟩),
  (3, ⟨.int .i64, 1, 8, .int .i64 0⟩),
  (4, ⟨.bool, 1, 1, .bool false⟩),
  (5, ⟨.int .u8, 1, 1, .int .u8 0⟩),
  (6, ⟨.int .u8, 1, 1, .int .u8 0⟩),
  (12, ⟨.int .u64, 1, 8, .int .u64 0⟩),
  (21, ⟨.int .i32, 1, 4, .int .i32 0⟩),
  (22, ⟨.int .u32, 1, 4, .int .u32 0⟩),
  (25, ⟨.int .u64, 1, 8, .int .u64 0⟩),
  (28, ⟨.slice 5, 1, 24, .slice none 0 0⟩),
  (29, ⟨.int .i64, 1, 8, .int .i64 0⟩),
  (38, ⟨.slice 49, 1, 24, .slice none 0 0⟩),
  (44, ⟨.slice 47, 1, 24, .slice none 0 0⟩),
  (56, ⟨.slice 60, 1, 24, .slice none 0 0⟩),
  (73, ⟨.slice 78, 1, 24, .slice none 0 0⟩),
  (82, ⟨.slice 30, 1, 24, .slice none 0 0⟩),
  (84, ⟨.slice 3, 1, 24, .slice none 0 0⟩),
  (87, ⟨.int .u64, 1, 8, .int .u64 0⟩),
  (88, ⟨.slice 29, 1, 24, .slice none 0 0⟩),
  (96, ⟨.int .u8, 1, 1, .int .u8 0⟩),
  (97, ⟨.int .u8, 1, 1, .int .u8 0⟩),
  (100, ⟨.int .i32, 1, 4, .int .i32 0⟩),
  (101, ⟨.int .i32, 1, 4, .int .i32 0⟩),
  (1, ⟨.func, 1, 8, .nilFunc⟩),
  (7, ⟨.struct [(0, 2), (1, 3), (2, 4), (3, 6)], 4, 24, .agg #[.int .i64 0, .int .i64 0, .bool false, .int .u8 0]⟩),
  (8, ⟨.struct [(0, 2), (1, 3), (2, 4), (3, 6)], 4, 24, .agg #[.int .i64 0, .int .i64 0, .bool false, .int .u8 0]⟩),
  (9, ⟨.str, 1, 16, .string ByteArray.empty⟩),
  (10, ⟨.str, 1, 16, .string ByteArray.empty⟩),
  (11, ⟨.str, 1, 16, .string ByteArray.empty⟩),
  (13, ⟨.struct [(0, 9), (1, 12)], 2, 24, .agg #[.string ByteArray.empty, .int .u64 0]⟩),
  (14, ⟨.struct [(0, 9), (1, 12)], 2, 24, .agg #[.string ByteArray.empty, .int .u64 0]⟩),
  (15, ⟨.ptr 91, 1, 8, .pointer none⟩),
  (16, ⟨.ptr 94, 1, 8, .pointer none⟩),
  (17, ⟨.ptr 103, 1, 8, .pointer none⟩),
  (18, ⟨.struct [(0, 17)], 1, 8, .agg #[.pointer none]⟩),
  (19, ⟨.struct [(0, 17)], 1, 8, .agg #[.pointer none]⟩),
  (20, ⟨.iface, 1, 16, .nilIface⟩),
  (23, ⟨.struct [(0, 3), (1, 22), (2, 9)], 3, 32, .agg #[.int .i64 0, .int .u32 0, .string ByteArray.empty]⟩),
  (24, ⟨.struct [(0, 3), (1, 22), (2, 9)], 3, 32, .agg #[.int .i64 0, .int .u32 0, .string ByteArray.empty]⟩),
  (26, ⟨.struct [(0, 3), (1, 25), (2, 22)], 3, 24, .agg #[.int .i64 0, .int .u64 0, .int .u32 0]⟩),
  (27, ⟨.struct [(0, 3), (1, 25), (2, 22)], 3, 24, .agg #[.int .i64 0, .int .u64 0, .int .u32 0]⟩),
  (30, ⟨.struct [(0, 3), (1, 22), (2, 9)], 3, 32, .agg #[.int .i64 0, .int .u32 0, .string ByteArray.empty]⟩),
  (32, ⟨.func, 1, 8, .nilFunc⟩),
  (34, ⟨.func, 1, 8, .nilFunc⟩),
  (35, ⟨.func, 1, 8, .nilFunc⟩),
  (36, ⟨.func, 1, 8, .nilFunc⟩),
  (37, ⟨.func, 1, 8, .nilFunc⟩),
  (39, ⟨.func, 1, 8, .nilFunc⟩),
  (41, ⟨.func, 1, 8, .nilFunc⟩),
  (43, ⟨.func, 1, 8, .nilFunc⟩),
  (45, ⟨.array 2 24, 6, 64, .agg #[.int .i64 0, .int .u32 0, .string ByteArray.empty, .int .i64 0, .int .u32 0, .string ByteArray.empty]⟩),
  (46, ⟨.struct [(0, 3), (1, 3), (2, 22), (3, 5), (4, 29), (5, 5)], 6, 40, .agg #[.int .i64 0, .int .i64 0, .int .u32 0, .int .u8 0, .int .i64 0, .int .u8 0]⟩),
  (47, ⟨.struct [(0, 3), (1, 3), (2, 22), (3, 5), (4, 29), (5, 5)], 6, 40, .agg #[.int .i64 0, .int .i64 0, .int .u32 0, .int .u8 0, .int .i64 0, .int .u8 0]⟩),
  (48, ⟨.struct [(0, 3), (1, 4), (2, 3), (3, 27), (6, 28), (7, 29)], 8, 80, .agg #[.int .i64 0, .bool false, .int .i64 0, .int .i64 0, .int .u64 0, .int .u32 0, .slice none 0 0, .int .i64 0]⟩),
  (49, ⟨.struct [(0, 3), (1, 4), (2, 3), (3, 27), (6, 28), (7, 29)], 8, 80, .agg #[.int .i64 0, .bool false, .int .i64 0, .int .i64 0, .int .u64 0, .int .u32 0, .slice none 0 0, .int .i64 0]⟩),
  (50, ⟨.func, 1, 8, .nilFunc⟩),
  (51, ⟨.func, 1, 8, .nilFunc⟩),
  (52, ⟨.func, 1, 8, .nilFunc⟩),
  (53, ⟨.func, 1, 8, .nilFunc⟩),
  (54, ⟨.func, 1, 8, .nilFunc⟩),
  (55, ⟨.func, 1, 8, .nilFunc⟩),
  (58, ⟨.func, 1, 8, .nilFunc⟩),
  (59, ⟨.map 64 4, 1, 8, .map none⟩),
  (60, ⟨.ptr 62, 1, 8, .pointer none⟩),
  (61, ⟨.struct [(0, 3), (1, 27), (4, 28), (5, 4), (6, 29), (7, 28), (8, 3), (9, 3)], 10, 112, .agg #[.int .i64 0, .int .i64 0, .int .u64 0, .int .u32 0, .slice none 0 0, .bool false, .int .i64 0, .slice none 0 0, .int .i64 0, .int .i64 0]⟩),
  (62, ⟨.struct [(0, 3), (1, 27), (4, 28), (5, 4), (6, 29), (7, 28), (8, 3), (9, 3)], 10, 112, .agg #[.int .i64 0, .int .i64 0, .int .u64 0, .int .u32 0, .slice none 0 0, .bool false, .int .i64 0, .slice none 0 0, .int .i64 0, .int .i64 0]⟩),
  (63, ⟨.struct [(0, 3), (1, 25)], 2, 16, .agg #[.int .i64 0, .int .u64 0]⟩),
  (64, ⟨.struct [(0, 3), (1, 25)], 2, 16, .agg #[.int .i64 0, .int .u64 0]⟩),
  (65, ⟨.map 64 56, 1, 8, .map none⟩),
  (66, ⟨.ptr 69, 1, 8, .pointer none⟩),
  (67, ⟨.map 72 4, 1, 8, .map none⟩),
  (68, ⟨.struct [(0, 56), (1, 67)], 2, 32, .agg #[.slice none 0 0, .map none]⟩),
  (69, ⟨.struct [(0, 56), (1, 67)], 2, 32, .agg #[.slice none 0 0, .map none]⟩),
  (70, ⟨.func, 1, 8, .nilFunc⟩),
  (71, ⟨.struct [(0, 22), (1, 30)], 4, 40, .agg #[.int .u32 0, .int .i64 0, .int .u32 0, .string ByteArray.empty]⟩),
  (72, ⟨.struct [(0, 22), (1, 30)], 4, 40, .agg #[.int .u32 0, .int .i64 0, .int .u32 0, .string ByteArray.empty]⟩),
  (75, ⟨.func, 1, 8, .nilFunc⟩),
  (76, ⟨.func, 1, 8, .nilFunc⟩),
  (77, ⟨.struct [(0, 3), (1, 27), (4, 28), (5, 29), (6, 28), (7, 3), (8, 3), (9, 4)], 10, 112, .agg #[.int .i64 0, .int .i64 0, .int .u64 0, .int .u32 0, .slice none 0 0, .int .i64 0, .slice none 0 0, .int .i64 0, .int .i64 0, .bool false]⟩),
  (78, ⟨.struct [(0, 3), (1, 27), (4, 28), (5, 29), (6, 28), (7, 3), (8, 3), (9, 4)], 10, 112, .agg #[.int .i64 0, .int .i64 0, .int .u64 0, .int .u32 0, .slice none 0 0, .int .i64 0, .slice none 0 0, .int .i64 0, .int .i64 0, .bool false]⟩),
  (79, ⟨.func, 1, 8, .nilFunc⟩),
  (80, ⟨.map 86 4, 1, 8, .map none⟩),
  (81, ⟨.map 3 60, 1, 8, .map none⟩),
  (83, ⟨.func, 1, 8, .nilFunc⟩),
  (85, ⟨.struct [(0, 3), (1, 24)], 4, 40, .agg #[.int .i64 0, .int .i64 0, .int .u32 0, .string ByteArray.empty]⟩),
  (86, ⟨.struct [(0, 3), (1, 24)], 4, 40, .agg #[.int .i64 0, .int .i64 0, .int .u32 0, .string ByteArray.empty]⟩),
  (89, ⟨.func, 1, 8, .nilFunc⟩),
  (90, ⟨.struct [(0, 17), (1, 17), (2, 17), (3, 9)], 4, 40, .agg #[.pointer none, .pointer none, .pointer none, .string ByteArray.empty]⟩),
  (91, ⟨.struct [(0, 17), (1, 17), (2, 17), (3, 9)], 4, 40, .agg #[.pointer none, .pointer none, .pointer none, .string ByteArray.empty]⟩),
  (92, ⟨.array 0 16, 0, 0, .agg #[]⟩),
  (93, ⟨.struct [(0, 92)], 0, 0, .agg #[]⟩),
  (94, ⟨.struct [(0, 92)], 0, 0, .agg #[]⟩),
  (95, ⟨.func, 1, 8, .nilFunc⟩),
  (98, ⟨.func, 1, 8, .nilFunc⟩),
  (99, ⟨.ptr 5, 1, 8, .pointer none⟩),
  (102, ⟨.struct [(0, 12), (1, 12), (2, 22), (3, 96), (4, 5), (5, 5), (6, 97), (7, 98), (8, 99), (9, 100), (10, 101)], 11, 48, .agg #[.int .u64 0, .int .u64 0, .int .u32 0, .int .u8 0, .int .u8 0, .int .u8 0, .int .u8 0, .nilFunc, .pointer none, .int .i32 0, .int .i32 0]⟩),
  (103, ⟨.struct [(0, 12), (1, 12), (2, 22), (3, 96), (4, 5), (5, 5), (6, 97), (7, 98), (8, 99), (9, 100), (10, 101)], 11, 48, .agg #[.int .u64 0, .int .u64 0, .int .u32 0, .int .u8 0, .int .u8 0, .int .u8 0, .int .u8 0, .nilFunc, .pointer none, .int .i32 0, .int .i32 0]⟩)]
theorem ttOk : TabOk Try.prog TT := tabOk_cons ty2 <| tabOk_cons ty3 <| tabOk_cons ty4 <| tabOk_cons ty5 <| tabOk_cons ty6 <| tabOk_cons ty12 <| tabOk_cons ty21 <| tabOk_cons ty22 <| tabOk_cons ty25 <| tabOk_cons ty28 <| tabOk_cons ty29 <| tabOk_cons ty38 <| tabOk_cons ty44 <| tabOk_cons ty56 <| tabOk_cons ty73 <| tabOk_cons ty82 <| tabOk_cons ty84 <| tabOk_cons ty87 <| tabOk_cons ty88 <| tabOk_cons ty96 <| tabOk_cons ty97 <| tabOk_cons ty100 <| tabOk_cons ty101 <| tabOk_cons ty1 <| tabOk_cons ty7 <| tabOk_cons ty8 <| tabOk_cons ty9 <| tabOk_cons ty10 <| tabOk_cons ty11 <| tabOk_cons ty13 <| tabOk_cons ty14 <| tabOk_cons ty15 <| tabOk_cons ty16 <| tabOk_cons ty17 <| tabOk_cons ty18 <| tabOk_cons ty19 <| tabOk_cons ty20 <| tabOk_cons ty23 <| tabOk_cons ty24 <| tabOk_cons ty26 <| tabOk_cons ty27 <| tabOk_cons ty30 <| tabOk_cons ty32 <| tabOk_cons ty34 <| tabOk_cons ty35 <| tabOk_cons ty36 <| tabOk_cons ty37 <| tabOk_cons ty39 <| tabOk_cons ty41 <| tabOk_cons ty43 <| tabOk_cons ty45 <| tabOk_cons ty46 <| tabOk_cons ty47 <| tabOk_cons ty48 <| tabOk_cons ty49 <| tabOk_cons ty50 <| tabOk_cons ty51 <| tabOk_cons ty52 <| tabOk_cons ty53 <| tabOk_cons ty54 <| tabOk_cons ty55 <| tabOk_cons ty58 <| tabOk_cons ty59 <| tabOk_cons ty60 <| tabOk_cons ty61 <| tabOk_cons ty62 <| tabOk_cons ty63 <| tabOk_cons ty64 <| tabOk_cons ty65 <| tabOk_cons ty66 <| tabOk_cons ty67 <| tabOk_cons ty68 <| tabOk_cons ty69 <| tabOk_cons ty70 <| tabOk_cons ty71 <| tabOk_cons ty72 <| tabOk_cons ty75 <| tabOk_cons ty76 <| tabOk_cons ty77 <| tabOk_cons ty78 <| tabOk_cons ty79 <| tabOk_cons ty80 <| tabOk_cons ty81 <| tabOk_cons ty83 <| tabOk_cons ty85 <| tabOk_cons ty86 <| tabOk_cons ty89 <| tabOk_cons ty90 <| tabOk_cons ty91 <| tabOk_cons ty92 <| tabOk_cons ty93 <| tabOk_cons ty94 <| tabOk_cons ty95 <| tabOk_cons ty98 <| tabOk_cons ty99 <| tabOk_cons ty102 <| tabOk_cons ty103 <| tabOk_nil
theorem tl2 : look TT 2 = some ⟨.int .i64, 1, 8, .int .i64 0⟩ := rfl
theorem tl3 : look TT 3 = some ⟨.int .i64, 1, 8, .int .i64 0⟩ := rfl
theorem tl4 : look TT 4 = some ⟨.bool, 1, 1, .bool false⟩ := rfl
theorem tl5 : look TT 5 = some ⟨.int .u8, 1, 1, .int .u8 0⟩ := rfl
theorem tl6 : look TT 6 = some ⟨.int .u8, 1, 1, .int .u8 0⟩ := rfl
theorem tl12 : look TT 12 = some ⟨.int .u64, 1, 8, .int .u64 0⟩ := rfl
theorem tl21 : look TT 21 = some ⟨.int .i32, 1, 4, .int .i32 0⟩ := rfl
theorem tl22 : look TT 22 = some ⟨.int .u32, 1, 4, .int .u32 0⟩ := rfl
theorem tl25 : look TT 25 = some ⟨.int .u64, 1, 8, .int .u64 0⟩ := rfl
theorem tl28 : look TT 28 = some ⟨.slice 5, 1, 24, .slice none 0 0⟩ := rfl
theorem tl29 : look TT 29 = some ⟨.int .i64, 1, 8, .int .i64 0⟩ := rfl
theorem tl38 : look TT 38 = some ⟨.slice 49, 1, 24, .slice none 0 0⟩ := rfl
theorem tl44 : look TT 44 = some ⟨.slice 47, 1, 24, .slice none 0 0⟩ := rfl
theorem tl56 : look TT 56 = some ⟨.slice 60, 1, 24, .slice none 0 0⟩ := rfl
theorem tl73 : look TT 73 = some ⟨.slice 78, 1, 24, .slice none 0 0⟩ := rfl
theorem tl82 : look TT 82 = some ⟨.slice 30, 1, 24, .slice none 0 0⟩ := rfl
theorem tl84 : look TT 84 = some ⟨.slice 3, 1, 24, .slice none 0 0⟩ := rfl
theorem tl87 : look TT 87 = some ⟨.int .u64, 1, 8, .int .u64 0⟩ := rfl
theorem tl88 : look TT 88 = some ⟨.slice 29, 1, 24, .slice none 0 0⟩ := rfl
theorem tl96 : look TT 96 = some ⟨.int .u8, 1, 1, .int .u8 0⟩ := rfl
theorem tl97 : look TT 97 = some ⟨.int .u8, 1, 1, .int .u8 0⟩ := rfl
theorem tl100 : look TT 100 = some ⟨.int .i32, 1, 4, .int .i32 0⟩ := rfl
theorem tl101 : look TT 101 = some ⟨.int .i32, 1, 4, .int .i32 0⟩ := rfl
theorem tl1 : look TT 1 = some ⟨.func, 1, 8, .nilFunc⟩ := rfl
theorem tl7 : look TT 7 = some ⟨.struct [(0, 2), (1, 3), (2, 4), (3, 6)], 4, 24, .agg #[.int .i64 0, .int .i64 0, .bool false, .int .u8 0]⟩ := rfl
theorem tl8 : look TT 8 = some ⟨.struct [(0, 2), (1, 3), (2, 4), (3, 6)], 4, 24, .agg #[.int .i64 0, .int .i64 0, .bool false, .int .u8 0]⟩ := rfl
theorem tl9 : look TT 9 = some ⟨.str, 1, 16, .string ByteArray.empty⟩ := rfl
theorem tl10 : look TT 10 = some ⟨.str, 1, 16, .string ByteArray.empty⟩ := rfl
theorem tl11 : look TT 11 = some ⟨.str, 1, 16, .string ByteArray.empty⟩ := rfl
theorem tl13 : look TT 13 = some ⟨.struct [(0, 9), (1, 12)], 2, 24, .agg #[.string ByteArray.empty, .int .u64 0]⟩ := rfl
theorem tl14 : look TT 14 = some ⟨.struct [(0, 9), (1, 12)], 2, 24, .agg #[.string ByteArray.empty, .int .u64 0]⟩ := rfl
theorem tl15 : look TT 15 = some ⟨.ptr 91, 1, 8, .pointer none⟩ := rfl
theorem tl16 : look TT 16 = some ⟨.ptr 94, 1, 8, .pointer none⟩ := rfl
theorem tl17 : look TT 17 = some ⟨.ptr 103, 1, 8, .pointer none⟩ := rfl
theorem tl18 : look TT 18 = some ⟨.struct [(0, 17)], 1, 8, .agg #[.pointer none]⟩ := rfl
theorem tl19 : look TT 19 = some ⟨.struct [(0, 17)], 1, 8, .agg #[.pointer none]⟩ := rfl
theorem tl20 : look TT 20 = some ⟨.iface, 1, 16, .nilIface⟩ := rfl
theorem tl23 : look TT 23 = some ⟨.struct [(0, 3), (1, 22), (2, 9)], 3, 32, .agg #[.int .i64 0, .int .u32 0, .string ByteArray.empty]⟩ := rfl
theorem tl24 : look TT 24 = some ⟨.struct [(0, 3), (1, 22), (2, 9)], 3, 32, .agg #[.int .i64 0, .int .u32 0, .string ByteArray.empty]⟩ := rfl
theorem tl26 : look TT 26 = some ⟨.struct [(0, 3), (1, 25), (2, 22)], 3, 24, .agg #[.int .i64 0, .int .u64 0, .int .u32 0]⟩ := rfl
theorem tl27 : look TT 27 = some ⟨.struct [(0, 3), (1, 25), (2, 22)], 3, 24, .agg #[.int .i64 0, .int .u64 0, .int .u32 0]⟩ := rfl
theorem tl30 : look TT 30 = some ⟨.struct [(0, 3), (1, 22), (2, 9)], 3, 32, .agg #[.int .i64 0, .int .u32 0, .string ByteArray.empty]⟩ := rfl
theorem tl32 : look TT 32 = some ⟨.func, 1, 8, .nilFunc⟩ := rfl
theorem tl34 : look TT 34 = some ⟨.func, 1, 8, .nilFunc⟩ := rfl
theorem tl35 : look TT 35 = some ⟨.func, 1, 8, .nilFunc⟩ := rfl
theorem tl36 : look TT 36 = some ⟨.func, 1, 8, .nilFunc⟩ := rfl
theorem tl37 : look TT 37 = some ⟨.func, 1, 8, .nilFunc⟩ := rfl
theorem tl39 : look TT 39 = some ⟨.func, 1, 8, .nilFunc⟩ := rfl
theorem tl41 : look TT 41 = some ⟨.func, 1, 8, .nilFunc⟩ := rfl
theorem tl43 : look TT 43 = some ⟨.func, 1, 8, .nilFunc⟩ := rfl
theorem tl45 : look TT 45 = some ⟨.array 2 24, 6, 64, .agg #[.int .i64 0, .int .u32 0, .string ByteArray.empty, .int .i64 0, .int .u32 0, .string ByteArray.empty]⟩ := rfl
theorem tl46 : look TT 46 = some ⟨.struct [(0, 3), (1, 3), (2, 22), (3, 5), (4, 29), (5, 5)], 6, 40, .agg #[.int .i64 0, .int .i64 0, .int .u32 0, .int .u8 0, .int .i64 0, .int .u8 0]⟩ := rfl
theorem tl47 : look TT 47 = some ⟨.struct [(0, 3), (1, 3), (2, 22), (3, 5), (4, 29), (5, 5)], 6, 40, .agg #[.int .i64 0, .int .i64 0, .int .u32 0, .int .u8 0, .int .i64 0, .int .u8 0]⟩ := rfl
theorem tl48 : look TT 48 = some ⟨.struct [(0, 3), (1, 4), (2, 3), (3, 27), (6, 28), (7, 29)], 8, 80, .agg #[.int .i64 0, .bool false, .int .i64 0, .int .i64 0, .int .u64 0, .int .u32 0, .slice none 0 0, .int .i64 0]⟩ := rfl
theorem tl49 : look TT 49 = some ⟨.struct [(0, 3), (1, 4), (2, 3), (3, 27), (6, 28), (7, 29)], 8, 80, .agg #[.int .i64 0, .bool false, .int .i64 0, .int .i64 0, .int .u64 0, .int .u32 0, .slice none 0 0, .int .i64 0]⟩ := rfl
theorem tl50 : look TT 50 = some ⟨.func, 1, 8, .nilFunc⟩ := rfl
theorem tl51 : look TT 51 = some ⟨.func, 1, 8, .nilFunc⟩ := rfl
theorem tl52 : look TT 52 = some ⟨.func, 1, 8, .nilFunc⟩ := rfl
theorem tl53 : look TT 53 = some ⟨.func, 1, 8, .nilFunc⟩ := rfl
theorem tl54 : look TT 54 = some ⟨.func, 1, 8, .nilFunc⟩ := rfl
theorem tl55 : look TT 55 = some ⟨.func, 1, 8, .nilFunc⟩ := rfl
theorem tl58 : look TT 58 = some ⟨.func, 1, 8, .nilFunc⟩ := rfl
theorem tl59 : look TT 59 = some ⟨.map 64 4, 1, 8, .map none⟩ := rfl
theorem tl60 : look TT 60 = some ⟨.ptr 62, 1, 8, .pointer none⟩ := rfl
theorem tl61 : look TT 61 = some ⟨.struct [(0, 3), (1, 27), (4, 28), (5, 4), (6, 29), (7, 28), (8, 3), (9, 3)], 10, 112, .agg #[.int .i64 0, .int .i64 0, .int .u64 0, .int .u32 0, .slice none 0 0, .bool false, .int .i64 0, .slice none 0 0, .int .i64 0, .int .i64 0]⟩ := rfl
theorem tl62 : look TT 62 = some ⟨.struct [(0, 3), (1, 27), (4, 28), (5, 4), (6, 29), (7, 28), (8, 3), (9, 3)], 10, 112, .agg #[.int .i64 0, .int .i64 0, .int .u64 0, .int .u32 0, .slice none 0 0, .bool false, .int .i64 0, .slice none 0 0, .int .i64 0, .int .i64 0]⟩ := rfl
theorem tl63 : look TT 63 = some ⟨.struct [(0, 3), (1, 25)], 2, 16, .agg #[.int .i64 0, .int .u64 0]⟩ := rfl
theorem tl64 : look TT 64 = some ⟨.struct [(0, 3), (1, 25)], 2, 16, .agg #[.int .i64 0, .int .u64 0]⟩ := rfl
theorem tl65 : look TT 65 = some ⟨.map 64 56, 1, 8, .map none⟩ := rfl
theorem tl66 : look TT 66 = some ⟨.ptr 69, 1, 8, .pointer none⟩ := rfl
theorem tl67 : look TT 67 = some ⟨.map 72 4, 1, 8, .map none⟩ := rfl
theorem tl68 : look TT 68 = some ⟨.struct [(0, 56), (1, 67)], 2, 32, .agg #[.slice none 0 0, .map none]⟩ := rfl
theorem tl69 : look TT 69 = some ⟨.struct [(0, 56), (1, 67)], 2, 32, .agg #[.slice none 0 0, .map none]⟩ := rfl
theorem tl70 : look TT 70 = some ⟨.func, 1, 8, .nilFunc⟩ := rfl
theorem tl71 : look TT 71 = some ⟨.struct [(0, 22), (1, 30)], 4, 40, .agg #[.int .u32 0, .int .i64 0, .int .u32 0, .string ByteArray.empty]⟩ := rfl
theorem tl72 : look TT 72 = some ⟨.struct [(0, 22), (1, 30)], 4, 40, .agg #[.int .u32 0, .int .i64 0, .int .u32 0, .string ByteArray.empty]⟩ := rfl
theorem tl75 : look TT 75 = some ⟨.func, 1, 8, .nilFunc⟩ := rfl
theorem tl76 : look TT 76 = some ⟨.func, 1, 8, .nilFunc⟩ := rfl
theorem tl77 : look TT 77 = some ⟨.struct [(0, 3), (1, 27), (4, 28), (5, 29), (6, 28), (7, 3), (8, 3), (9, 4)], 10, 112, .agg #[.int .i64 0, .int .i64 0, .int .u64 0, .int .u32 0, .slice none 0 0, .int .i64 0, .slice none 0 0, .int .i64 0, .int .i64 0, .bool false]⟩ := rfl
theorem tl78 : look TT 78 = some ⟨.struct [(0, 3), (1, 27), (4, 28), (5, 29), (6, 28), (7, 3), (8, 3), (9, 4)], 10, 112, .agg #[.int .i64 0, .int .i64 0, .int .u64 0, .int .u32 0, .slice none 0 0, .int .i64 0, .slice none 0 0, .int .i64 0, .int .i64 0, .bool false]⟩ := rfl
theorem tl79 : look TT 79 = some ⟨.func, 1, 8, .nilFunc⟩ := rfl
theorem tl80 : look TT 80 = some ⟨.map 86 4, 1, 8, .map none⟩ := rfl
theorem tl81 : look TT 81 = some ⟨.map 3 60, 1, 8, .map none⟩ := rfl
theorem tl83 : look TT 83 = some ⟨.func, 1, 8, .nilFunc⟩ := rfl
theorem tl85 : look TT 85 = some ⟨.struct [(0, 3), (1, 24)], 4, 40, .agg #[.int .i64 0, .int .i64 0, .int .u32 0, .string ByteArray.empty]⟩ := rfl
theorem tl86 : look TT 86 = some ⟨.struct [(0, 3), (1, 24)], 4, 40, .agg #[.int .i64 0, .int .i64 0, .int .u32 0, .string ByteArray.empty]⟩ := rfl
theorem tl89 : look TT 89 = some ⟨.func, 1, 8, .nilFunc⟩ := rfl
theorem tl90 : look TT 90 = some ⟨.struct [(0, 17), (1, 17), (2, 17), (3, 9)], 4, 40, .agg #[.pointer none, .pointer none, .pointer none, .string ByteArray.empty]⟩ := rfl
theorem tl91 : look TT 91 = some ⟨.struct [(0, 17), (1, 17), (2, 17), (3, 9)], 4, 40, .agg #[.pointer none, .pointer none, .pointer none, .string ByteArray.empty]⟩ := rfl
theorem tl92 : look TT 92 = some ⟨.array 0 16, 0, 0, .agg #[]⟩ := rfl
theorem tl93 : look TT 93 = some ⟨.struct [(0, 92)], 0, 0, .agg #[]⟩ := rfl
theorem tl94 : look TT 94 = some ⟨.struct [(0, 92)], 0, 0, .agg #[]⟩ := rfl
theorem tl95 : look TT 95 = some ⟨.func, 1, 8, .nilFunc⟩ := rfl
theorem tl98 : look TT 98 = some ⟨.func, 1, 8, .nilFunc⟩ := rfl
theorem tl99 : look TT 99 = some ⟨.ptr 5, 1, 8, .pointer none⟩ := rfl
theorem tl102 : look TT 102 = some ⟨.struct [(0, 12), (1, 12), (2, 22), (3, 96), (4, 5), (5, 5), (6, 97), (7, 98), (8, 99), (9, 100), (10, 101)], 11, 48, .agg #[.int .u64 0, .int .u64 0, .int .u32 0, .int .u8 0, .int .u8 0, .int .u8 0, .int .u8 0, .nilFunc, .pointer none, .int .i32 0, .int .i32 0]⟩ := rfl
theorem tl103 : look TT 103 = some ⟨.struct [(0, 12), (1, 12), (2, 22), (3, 96), (4, 5), (5, 5), (6, 97), (7, 98), (8, 99), (9, 100), (10, 101)], 11, 48, .agg #[.int .u64 0, .int .u64 0, .int .u32 0, .int .u8 0, .int .u8 0, .int .u8 0, .int .u8 0, .nilFunc, .pointer none, .int .i32 0, .int .i32 0]⟩ := rfl
theorem mixed : Try.prog.follows .mixedOrders = true := by kernel_rfl
end Go.Proofs.Yteclfkffgnfmpaa
