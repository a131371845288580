/-
  The types of this seat, as a walk needs them. Written by a program (gen_ty.py).
-/
import Derived.Test.YtkpdjbklnjjedaaAbR
import Derived.Test.YtkpdjbklnjjedaaRows
namespace Go.Proofs.Ytkpdjbklnjjedaa
open Go.Ab
@[go_sem] theorem Try.ty1 : tinf Try.prog 1 = some ⟨.fn, false, 1, 8, .v .nilFunc⟩ := by kernel_rfl
@[go_sem] theorem Try.ty2 : tinf Try.prog 2 = some ⟨.int .i64, false, 1, 8, .v (.int .i64 0)⟩ := by kernel_rfl
@[go_sem] theorem Try.ty3 : tinf Try.prog 3 = some ⟨.int .i64, false, 1, 8, .v (.int .i64 0)⟩ := by kernel_rfl
@[go_sem] theorem Try.ty4 : tinf Try.prog 4 = some ⟨.bool, false, 1, 1, .v (.bool false)⟩ := by kernel_rfl
@[go_sem] theorem Try.ty5 : tinf Try.prog 5 = some ⟨.int .u8, false, 1, 1, .v (.int .u8 0)⟩ := by kernel_rfl
@[go_sem] theorem Try.ty6 : tinf Try.prog 6 = some ⟨.int .u8, false, 1, 1, .v (.int .u8 0)⟩ := by kernel_rfl
@[go_sem] theorem Try.ty7 : tinf Try.prog 7 = some ⟨.st [(0, 2), (1, 3), (2, 4), (3, 6)], true, 4, 24, .agg [.v (.int .i64 0), .v (.int .i64 0), .v (.bool false), .v (.int .u8 0)]⟩ := by kernel_rfl
@[go_sem] theorem Try.ty8 : tinf Try.prog 8 = some ⟨.st [(0, 2), (1, 3), (2, 4), (3, 6)], true, 4, 24, .agg [.v (.int .i64 0), .v (.int .i64 0), .v (.bool false), .v (.int .u8 0)]⟩ := by kernel_rfl
@[go_sem] theorem Try.ty9 : tinf Try.prog 9 = some ⟨.str, false, 1, 16, .v (.string ByteArray.empty)⟩ := by kernel_rfl
@[go_sem] theorem Try.ty10 : tinf Try.prog 10 = some ⟨.str, false, 1, 16, .v (.string ByteArray.empty)⟩ := by kernel_rfl
@[go_sem] theorem Try.ty11 : tinf Try.prog 11 = some ⟨.str, false, 1, 16, .v (.string ByteArray.empty)⟩ := by kernel_rfl
@[go_sem] theorem Try.ty12 : tinf Try.prog 12 = some ⟨.int .u64, false, 1, 8, .v (.int .u64 0)⟩ := by kernel_rfl
@[go_sem] theorem Try.ty13 : tinf Try.prog 13 = some ⟨.st [(0, 9), (1, 12)], true, 2, 24, .agg [.v (.string ByteArray.empty), .v (.int .u64 0)]⟩ := by kernel_rfl
@[go_sem] theorem Try.ty14 : tinf Try.prog 14 = some ⟨.st [(0, 9), (1, 12)], true, 2, 24, .agg [.v (.string ByteArray.empty), .v (.int .u64 0)]⟩ := by kernel_rfl
@[go_sem] theorem Try.ty15 : tinf Try.prog 15 = some ⟨.ptr 68, false, 1, 8, .v (.pointer none)⟩ := by kernel_rfl
@[go_sem] theorem Try.ty16 : tinf Try.prog 16 = some ⟨.ptr 71, false, 1, 8, .v (.pointer none)⟩ := by kernel_rfl
@[go_sem] theorem Try.ty17 : tinf Try.prog 17 = some ⟨.ptr 81, false, 1, 8, .v (.pointer none)⟩ := by kernel_rfl
@[go_sem] theorem Try.ty18 : tinf Try.prog 18 = some ⟨.st [(0, 17)], true, 1, 8, .agg [.v (.pointer none)]⟩ := by kernel_rfl
@[go_sem] theorem Try.ty19 : tinf Try.prog 19 = some ⟨.st [(0, 17)], true, 1, 8, .agg [.v (.pointer none)]⟩ := by kernel_rfl
@[go_sem] theorem Try.ty20 : tinf Try.prog 20 = some ⟨.ifc, false, 1, 16, .v .nilIface⟩ := by kernel_rfl
@[go_sem] theorem Try.ty21 : tinf Try.prog 21 = some ⟨.int .i32, false, 1, 4, .v (.int .i32 0)⟩ := by kernel_rfl
@[go_sem] theorem Try.ty22 : tinf Try.prog 22 = some ⟨.sl 3, false, 1, 24, .v (.slice none 0 0)⟩ := by kernel_rfl
@[go_sem] theorem Try.ty23 : tinf Try.prog 23 = some ⟨.sl 42, false, 1, 24, .v (.slice none 0 0)⟩ := by kernel_rfl
@[go_sem] theorem Try.ty24 : tinf Try.prog 24 = some ⟨.int .u64, false, 1, 8, .v (.int .u64 0)⟩ := by kernel_rfl
@[go_sem] theorem Try.ty25 : tinf Try.prog 25 = some ⟨.fn, false, 1, 8, .v .nilFunc⟩ := by kernel_rfl
@[go_sem] theorem Try.ty26 : tinf Try.prog 26 = some ⟨.fn, false, 1, 8, .v .nilFunc⟩ := by kernel_rfl
@[go_sem] theorem Try.ty27 : tinf Try.prog 27 = some ⟨.fn, false, 1, 8, .v .nilFunc⟩ := by kernel_rfl
@[go_sem] theorem Try.ty28 : tinf Try.prog 28 = some ⟨.sl 23, false, 1, 24, .v (.slice none 0 0)⟩ := by kernel_rfl
@[go_sem] theorem Try.ty30 : tinf Try.prog 30 = some ⟨.fn, false, 1, 8, .v .nilFunc⟩ := by kernel_rfl
@[go_sem] theorem Try.ty31 : tinf Try.prog 31 = some ⟨.fn, false, 1, 8, .v .nilFunc⟩ := by kernel_rfl
@[go_sem] theorem Try.ty32 : tinf Try.prog 32 = some ⟨.fn, false, 1, 8, .v .nilFunc⟩ := by kernel_rfl
@[go_sem] theorem Try.ty33 : tinf Try.prog 33 = some ⟨.fn, false, 1, 8, .v .nilFunc⟩ := by kernel_rfl
@[go_sem] theorem Try.ty34 : tinf Try.prog 34 = some ⟨.fn, false, 1, 8, .v .nilFunc⟩ := by kernel_rfl
@[go_sem] theorem Try.ty35 : tinf Try.prog 35 = some ⟨.fn, false, 1, 8, .v .nilFunc⟩ := by kernel_rfl
@[go_sem] theorem Try.ty36 : tinf Try.prog 36 = some ⟨.fn, false, 1, 8, .v .nilFunc⟩ := by kernel_rfl
@[go_sem] theorem Try.ty37 : tinf Try.prog 37 = some ⟨.ptr 64, false, 1, 8, .v (.pointer none)⟩ := by kernel_rfl
@[go_sem] theorem Try.ty38 : tinf Try.prog 38 = some ⟨.fn, false, 1, 8, .v .nilFunc⟩ := by kernel_rfl
@[go_sem] theorem Try.ty39 : tinf Try.prog 39 = some ⟨.fn, false, 1, 8, .v .nilFunc⟩ := by kernel_rfl
@[go_sem] theorem Try.ty40 : tinf Try.prog 40 = some ⟨.fn, false, 1, 8, .v .nilFunc⟩ := by kernel_rfl
@[go_sem] theorem Try.ty41 : tinf Try.prog 41 = some ⟨.st [(0, 24), (1, 24), (2, 3), (3, 3)], true, 4, 32, .agg [.v (.int .u64 0), .v (.int .u64 0), .v (.int .i64 0), .v (.int .i64 0)]⟩ := by kernel_rfl
@[go_sem] theorem Try.ty42 : tinf Try.prog 42 = some ⟨.st [(0, 24), (1, 24), (2, 3), (3, 3)], true, 4, 32, .agg [.v (.int .u64 0), .v (.int .u64 0), .v (.int .i64 0), .v (.int .i64 0)]⟩ := by kernel_rfl
@[go_sem] theorem Try.ty43 : tinf Try.prog 43 = some ⟨.fn, false, 1, 8, .v .nilFunc⟩ := by kernel_rfl
@[go_sem] theorem Try.ty44 : tinf Try.prog 44 = some ⟨.fn, false, 1, 8, .v .nilFunc⟩ := by kernel_rfl
@[go_sem] theorem Try.ty45 : tinf Try.prog 45 = some ⟨.sl 48, false, 1, 24, .v (.slice none 0 0)⟩ := by kernel_rfl
@[go_sem] theorem Try.ty46 : tinf Try.prog 46 = some ⟨.fn, false, 1, 8, .v .nilFunc⟩ := by kernel_rfl
@[go_sem] theorem Try.ty47 : tinf Try.prog 47 = some ⟨.arr 8 24, true, 8, 64, .agg [.v (.int .u64 0), .v (.int .u64 0), .v (.int .u64 0), .v (.int .u64 0), .v (.int .u64 0), .v (.int .u64 0), .v (.int .u64 0), .v (.int .u64 0)]⟩ := by kernel_rfl
@[go_sem] theorem Try.ty48 : tinf Try.prog 48 = some ⟨.arr 8 24, true, 8, 64, .agg [.v (.int .u64 0), .v (.int .u64 0), .v (.int .u64 0), .v (.int .u64 0), .v (.int .u64 0), .v (.int .u64 0), .v (.int .u64 0), .v (.int .u64 0)]⟩ := by kernel_rfl
@[go_sem] theorem Try.ty49 : tinf Try.prog 49 = some ⟨.fn, false, 1, 8, .v .nilFunc⟩ := by kernel_rfl
@[go_sem] theorem Try.ty50 : tinf Try.prog 50 = some ⟨.fn, false, 1, 8, .v .nilFunc⟩ := by kernel_rfl
@[go_sem] theorem Try.ty51 : tinf Try.prog 51 = some ⟨.ptr 48, false, 1, 8, .v (.pointer none)⟩ := by kernel_rfl
@[go_sem] theorem Try.ty52 : tinf Try.prog 52 = some ⟨.fn, false, 1, 8, .v .nilFunc⟩ := by kernel_rfl
@[go_sem] theorem Try.ty53 : tinf Try.prog 53 = some ⟨.fn, false, 1, 8, .v .nilFunc⟩ := by kernel_rfl
@[go_sem] theorem Try.ty54 : tinf Try.prog 54 = some ⟨.map 59 3, false, 1, 8, .v (.map none)⟩ := by kernel_rfl
@[go_sem] theorem Try.ty56 : tinf Try.prog 56 = some ⟨.fn, false, 1, 8, .v .nilFunc⟩ := by kernel_rfl
@[go_sem] theorem Try.ty58 : tinf Try.prog 58 = some ⟨.st [(0, 24), (1, 3)], true, 2, 16, .agg [.v (.int .u64 0), .v (.int .i64 0)]⟩ := by kernel_rfl
@[go_sem] theorem Try.ty59 : tinf Try.prog 59 = some ⟨.st [(0, 24), (1, 3)], true, 2, 16, .agg [.v (.int .u64 0), .v (.int .i64 0)]⟩ := by kernel_rfl
@[go_sem] theorem Try.ty60 : tinf Try.prog 60 = some ⟨.fn, false, 1, 8, .v .nilFunc⟩ := by kernel_rfl
@[go_sem] theorem Try.ty61 : tinf Try.prog 61 = some ⟨.fn, false, 1, 8, .v .nilFunc⟩ := by kernel_rfl
@[go_sem] theorem Try.ty62 : tinf Try.prog 62 = some ⟨.fn, false, 1, 8, .v .nilFunc⟩ := by kernel_rfl
@[go_sem] theorem Try.ty63 : tinf Try.prog 63 = some ⟨.st [(0, 22), (1, 3)], true, 2, 32, .agg [.v (.slice none 0 0), .v (.int .i64 0)]⟩ := by kernel_rfl
@[go_sem] theorem Try.ty64 : tinf Try.prog 64 = some ⟨.st [(0, 22), (1, 3)], true, 2, 32, .agg [.v (.slice none 0 0), .v (.int .i64 0)]⟩ := by kernel_rfl
@[go_sem] theorem Try.ty65 : tinf Try.prog 65 = some ⟨.map 24 3, false, 1, 8, .v (.map none)⟩ := by kernel_rfl
@[go_sem] theorem Try.ty66 : tinf Try.prog 66 = some ⟨.fn, false, 1, 8, .v .nilFunc⟩ := by kernel_rfl
@[go_sem] theorem Try.ty67 : tinf Try.prog 67 = some ⟨.st [(0, 17), (1, 17), (2, 17), (3, 9)], true, 4, 40, .agg [.v (.pointer none), .v (.pointer none), .v (.pointer none), .v (.string ByteArray.empty)]⟩ := by kernel_rfl
@[go_sem] theorem Try.ty68 : tinf Try.prog 68 = some ⟨.st [(0, 17), (1, 17), (2, 17), (3, 9)], true, 4, 40, .agg [.v (.pointer none), .v (.pointer none), .v (.pointer none), .v (.string ByteArray.empty)]⟩ := by kernel_rfl
@[go_sem] theorem Try.ty69 : tinf Try.prog 69 = some ⟨.arr 0 16, true, 0, 0, .agg []⟩ := by kernel_rfl
@[go_sem] theorem Try.ty70 : tinf Try.prog 70 = some ⟨.st [(0, 69)], true, 0, 0, .agg []⟩ := by kernel_rfl
@[go_sem] theorem Try.ty71 : tinf Try.prog 71 = some ⟨.st [(0, 69)], true, 0, 0, .agg []⟩ := by kernel_rfl
@[go_sem] theorem Try.ty72 : tinf Try.prog 72 = some ⟨.fn, false, 1, 8, .v .nilFunc⟩ := by kernel_rfl
@[go_sem] theorem Try.ty73 : tinf Try.prog 73 = some ⟨.int .u32, false, 1, 4, .v (.int .u32 0)⟩ := by kernel_rfl
@[go_sem] theorem Try.ty74 : tinf Try.prog 74 = some ⟨.int .u8, false, 1, 1, .v (.int .u8 0)⟩ := by kernel_rfl
@[go_sem] theorem Try.ty75 : tinf Try.prog 75 = some ⟨.int .u8, false, 1, 1, .v (.int .u8 0)⟩ := by kernel_rfl
@[go_sem] theorem Try.ty76 : tinf Try.prog 76 = some ⟨.fn, false, 1, 8, .v .nilFunc⟩ := by kernel_rfl
@[go_sem] theorem Try.ty77 : tinf Try.prog 77 = some ⟨.ptr 5, false, 1, 8, .v (.pointer none)⟩ := by kernel_rfl
@[go_sem] theorem Try.ty78 : tinf Try.prog 78 = some ⟨.int .i32, false, 1, 4, .v (.int .i32 0)⟩ := by kernel_rfl
@[go_sem] theorem Try.ty79 : tinf Try.prog 79 = some ⟨.int .i32, false, 1, 4, .v (.int .i32 0)⟩ := by kernel_rfl
@[go_sem] theorem Try.ty80 : tinf Try.prog 80 = some ⟨.st [(0, 12), (1, 12), (2, 73), (3, 74), (4, 5), (5, 5), (6, 75), (7, 76), (8, 77), (9, 78), (10, 79)], true, 11, 48, .agg [.v (.int .u64 0), .v (.int .u64 0), .v (.int .u32 0), .v (.int .u8 0), .v (.int .u8 0), .v (.int .u8 0), .v (.int .u8 0), .v .nilFunc, .v (.pointer none), .v (.int .i32 0), .v (.int .i32 0)]⟩ := by kernel_rfl
@[go_sem] theorem Try.ty81 : tinf Try.prog 81 = some ⟨.st [(0, 12), (1, 12), (2, 73), (3, 74), (4, 5), (5, 5), (6, 75), (7, 76), (8, 77), (9, 78), (10, 79)], true, 11, 48, .agg [.v (.int .u64 0), .v (.int .u64 0), .v (.int .u32 0), .v (.int .u8 0), .v (.int .u8 0), .v (.int .u8 0), .v (.int .u8 0), .v .nilFunc, .v (.pointer none), .v (.int .i32 0), .v (.int .i32 0)]⟩ := by kernel_rfl
theorem Try.mixed : Try.prog.follows .mixedOrders = true := by kernel_rfl
end Go.Proofs.Ytkpdjbklnjjedaa
