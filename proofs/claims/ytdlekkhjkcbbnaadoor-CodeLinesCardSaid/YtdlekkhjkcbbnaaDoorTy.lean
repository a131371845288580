/-
  The types of this seat, as a walk needs them. Written by a program (gen_ty.py).
-/
import Derived.Test.YtdlekkhjkcbbnaaDoorAbR
import Derived.Test.YtdlekkhjkcbbnaaDoorRows
namespace Go.Proofs.YtdlekkhjkcbbnaaDoor
open Go.Ab
@[go_sem] theorem Tryd.ty1 : tinf Tryd.prog 1 = some ⟨.fn, false, 1, 8, .v .nilFunc⟩ := by kernel_rfl
@[go_sem] theorem Tryd.ty2 : tinf Tryd.prog 2 = some ⟨.int .i64, false, 1, 8, .v (.int .i64 0)⟩ := by kernel_rfl
@[go_sem] theorem Tryd.ty3 : tinf Tryd.prog 3 = some ⟨.int .i64, false, 1, 8, .v (.int .i64 0)⟩ := by kernel_rfl
@[go_sem] theorem Tryd.ty4 : tinf Tryd.prog 4 = some ⟨.bool, false, 1, 1, .v (.bool false)⟩ := by kernel_rfl
@[go_sem] theorem Tryd.ty5 : tinf Tryd.prog 5 = some ⟨.int .u8, false, 1, 1, .v (.int .u8 0)⟩ := by kernel_rfl
@[go_sem] theorem Tryd.ty6 : tinf Tryd.prog 6 = some ⟨.int .u8, false, 1, 1, .v (.int .u8 0)⟩ := by kernel_rfl
@[go_sem] theorem Tryd.ty7 : tinf Tryd.prog 7 = some ⟨.st [(0, 2), (1, 3), (2, 4), (3, 6)], true, 4, 24, .agg [.v (.int .i64 0), .v (.int .i64 0), .v (.bool false), .v (.int .u8 0)]⟩ := by kernel_rfl
@[go_sem] theorem Tryd.ty8 : tinf Tryd.prog 8 = some ⟨.st [(0, 2), (1, 3), (2, 4), (3, 6)], true, 4, 24, .agg [.v (.int .i64 0), .v (.int .i64 0), .v (.bool false), .v (.int .u8 0)]⟩ := by kernel_rfl
@[go_sem] theorem Tryd.ty9 : tinf Tryd.prog 9 = some ⟨.str, false, 1, 16, .v (.string ByteArray.empty)⟩ := by kernel_rfl
@[go_sem] theorem Tryd.ty10 : tinf Tryd.prog 10 = some ⟨.str, false, 1, 16, .v (.string ByteArray.empty)⟩ := by kernel_rfl
@[go_sem] theorem Tryd.ty11 : tinf Tryd.prog 11 = some ⟨.str, false, 1, 16, .v (.string ByteArray.empty)⟩ := by kernel_rfl
@[go_sem] theorem Tryd.ty12 : tinf Tryd.prog 12 = some ⟨.int .u64, false, 1, 8, .v (.int .u64 0)⟩ := by kernel_rfl
@[go_sem] theorem Tryd.ty13 : tinf Tryd.prog 13 = some ⟨.st [(0, 9), (1, 12)], true, 2, 24, .agg [.v (.string ByteArray.empty), .v (.int .u64 0)]⟩ := by kernel_rfl
@[go_sem] theorem Tryd.ty14 : tinf Tryd.prog 14 = some ⟨.st [(0, 9), (1, 12)], true, 2, 24, .agg [.v (.string ByteArray.empty), .v (.int .u64 0)]⟩ := by kernel_rfl
@[go_sem] theorem Tryd.ty15 : tinf Tryd.prog 15 = some ⟨.ptr 159, false, 1, 8, .v (.pointer none)⟩ := by kernel_rfl
@[go_sem] theorem Tryd.ty16 : tinf Tryd.prog 16 = some ⟨.ptr 162, false, 1, 8, .v (.pointer none)⟩ := by kernel_rfl
@[go_sem] theorem Tryd.ty17 : tinf Tryd.prog 17 = some ⟨.ptr 170, false, 1, 8, .v (.pointer none)⟩ := by kernel_rfl
@[go_sem] theorem Tryd.ty18 : tinf Tryd.prog 18 = some ⟨.st [(0, 17)], true, 1, 8, .agg [.v (.pointer none)]⟩ := by kernel_rfl
@[go_sem] theorem Tryd.ty19 : tinf Tryd.prog 19 = some ⟨.st [(0, 17)], true, 1, 8, .agg [.v (.pointer none)]⟩ := by kernel_rfl
@[go_sem] theorem Tryd.ty20 : tinf Tryd.prog 20 = some ⟨.ifc, false, 1, 16, .v .nilIface⟩ := by kernel_rfl
@[go_sem] theorem Tryd.ty21 : tinf Tryd.prog 21 = some ⟨.int .i32, false, 1, 4, .v (.int .i32 0)⟩ := by kernel_rfl
@[go_sem] theorem Tryd.ty22 : tinf Tryd.prog 22 = some ⟨.sl 5, false, 1, 24, .v (.slice none 0 0)⟩ := by kernel_rfl
@[go_sem] theorem Tryd.ty23 : tinf Tryd.prog 23 = some ⟨.fn, false, 1, 8, .v .nilFunc⟩ := by kernel_rfl
@[go_sem] theorem Tryd.ty24 : tinf Tryd.prog 24 = some ⟨.sl 39, false, 1, 24, .v (.slice none 0 0)⟩ := by kernel_rfl
@[go_sem] theorem Tryd.ty25 : tinf Tryd.prog 25 = some ⟨.sl 9, false, 1, 24, .v (.slice none 0 0)⟩ := by kernel_rfl
@[go_sem] theorem Tryd.ty26 : tinf Tryd.prog 26 = some ⟨.st [(0, 24), (1, 25), (2, 3)], true, 3, 56, .agg [.v (.slice none 0 0), .v (.slice none 0 0), .v (.int .i64 0)]⟩ := by kernel_rfl
@[go_sem] theorem Tryd.ty27 : tinf Tryd.prog 27 = some ⟨.st [(0, 24), (1, 25), (2, 3)], true, 3, 56, .agg [.v (.slice none 0 0), .v (.slice none 0 0), .v (.int .i64 0)]⟩ := by kernel_rfl
@[go_sem] theorem Tryd.ty28 : tinf Tryd.prog 28 = some ⟨.fn, false, 1, 8, .v .nilFunc⟩ := by kernel_rfl
@[go_sem] theorem Tryd.ty29 : tinf Tryd.prog 29 = some ⟨.int .i64, false, 1, 8, .v (.int .i64 0)⟩ := by kernel_rfl
@[go_sem] theorem Tryd.ty31 : tinf Tryd.prog 31 = some ⟨.fn, false, 1, 8, .v .nilFunc⟩ := by kernel_rfl
@[go_sem] theorem Tryd.ty33 : tinf Tryd.prog 33 = some ⟨.fn, false, 1, 8, .v .nilFunc⟩ := by kernel_rfl
@[go_sem] theorem Tryd.ty34 : tinf Tryd.prog 34 = some ⟨.fn, false, 1, 8, .v .nilFunc⟩ := by kernel_rfl
@[go_sem] theorem Tryd.ty35 : tinf Tryd.prog 35 = some ⟨.fn, false, 1, 8, .v .nilFunc⟩ := by kernel_rfl
@[go_sem] theorem Tryd.ty36 : tinf Tryd.prog 36 = some ⟨.fn, false, 1, 8, .v .nilFunc⟩ := by kernel_rfl
@[go_sem] theorem Tryd.ty37 : tinf Tryd.prog 37 = some ⟨.ptr 39, false, 1, 8, .v (.pointer none)⟩ := by kernel_rfl
@[go_sem] theorem Tryd.ty38 : tinf Tryd.prog 38 = some ⟨.st [(0, 3), (1, 3), (2, 3), (3, 3)], true, 4, 32, .agg [.v (.int .i64 0), .v (.int .i64 0), .v (.int .i64 0), .v (.int .i64 0)]⟩ := by kernel_rfl
@[go_sem] theorem Tryd.ty39 : tinf Tryd.prog 39 = some ⟨.st [(0, 3), (1, 3), (2, 3), (3, 3)], true, 4, 32, .agg [.v (.int .i64 0), .v (.int .i64 0), .v (.int .i64 0), .v (.int .i64 0)]⟩ := by kernel_rfl
@[go_sem] theorem Tryd.ty40 : tinf Tryd.prog 40 = some ⟨.fn, false, 1, 8, .v .nilFunc⟩ := by kernel_rfl
@[go_sem] theorem Tryd.ty41 : tinf Tryd.prog 41 = some ⟨.ptr 69, false, 1, 8, .v (.pointer none)⟩ := by kernel_rfl
@[go_sem] theorem Tryd.ty42 : tinf Tryd.prog 42 = some ⟨.fn, false, 1, 8, .v .nilFunc⟩ := by kernel_rfl
@[go_sem] theorem Tryd.ty43 : tinf Tryd.prog 43 = some ⟨.fn, false, 1, 8, .v .nilFunc⟩ := by kernel_rfl
@[go_sem] theorem Tryd.ty44 : tinf Tryd.prog 44 = some ⟨.fn, false, 1, 8, .v .nilFunc⟩ := by kernel_rfl
@[go_sem] theorem Tryd.ty45 : tinf Tryd.prog 45 = some ⟨.fn, false, 1, 8, .v .nilFunc⟩ := by kernel_rfl
@[go_sem] theorem Tryd.ty47 : tinf Tryd.prog 47 = some ⟨.fn, false, 1, 8, .v .nilFunc⟩ := by kernel_rfl
@[go_sem] theorem Tryd.ty48 : tinf Tryd.prog 48 = some ⟨.ptr 50, false, 1, 8, .v (.pointer none)⟩ := by kernel_rfl
@[go_sem] theorem Tryd.ty49 : tinf Tryd.prog 49 = some ⟨.st [(0, 48), (1, 22)], true, 2, 32, .agg [.v (.pointer none), .v (.slice none 0 0)]⟩ := by kernel_rfl
@[go_sem] theorem Tryd.ty50 : tinf Tryd.prog 50 = some ⟨.st [(0, 48), (1, 22)], true, 2, 32, .agg [.v (.pointer none), .v (.slice none 0 0)]⟩ := by kernel_rfl
@[go_sem] theorem Tryd.ty51 : tinf Tryd.prog 51 = some ⟨.ifc, false, 1, 16, .v .nilIface⟩ := by kernel_rfl
@[go_sem] theorem Tryd.ty52 : tinf Tryd.prog 52 = some ⟨.ifc, false, 1, 16, .v .nilIface⟩ := by kernel_rfl
@[go_sem] theorem Tryd.ty54 : tinf Tryd.prog 54 = some ⟨.fn, false, 1, 8, .v .nilFunc⟩ := by kernel_rfl
@[go_sem] theorem Tryd.ty55 : tinf Tryd.prog 55 = some ⟨.fn, false, 1, 8, .v .nilFunc⟩ := by kernel_rfl
@[go_sem] theorem Tryd.ty56 : tinf Tryd.prog 56 = some ⟨.fn, false, 1, 8, .v .nilFunc⟩ := by kernel_rfl
@[go_sem] theorem Tryd.ty57 : tinf Tryd.prog 57 = some ⟨.fn, false, 1, 8, .v .nilFunc⟩ := by kernel_rfl
@[go_sem] theorem Tryd.ty58 : tinf Tryd.prog 58 = some ⟨.fn, false, 1, 8, .v .nilFunc⟩ := by kernel_rfl
@[go_sem] theorem Tryd.ty59 : tinf Tryd.prog 59 = some ⟨.ptr 61, false, 1, 8, .v (.pointer none)⟩ := by kernel_rfl
@[go_sem] theorem Tryd.ty60 : tinf Tryd.prog 60 = some ⟨.st [(0, 27), (3, 4)], true, 4, 64, .agg [.v (.slice none 0 0), .v (.slice none 0 0), .v (.int .i64 0), .v (.bool false)]⟩ := by kernel_rfl
@[go_sem] theorem Tryd.ty61 : tinf Tryd.prog 61 = some ⟨.st [(0, 27), (3, 4)], true, 4, 64, .agg [.v (.slice none 0 0), .v (.slice none 0 0), .v (.int .i64 0), .v (.bool false)]⟩ := by kernel_rfl
@[go_sem] theorem Tryd.ty62 : tinf Tryd.prog 62 = some ⟨.fn, false, 1, 8, .v .nilFunc⟩ := by kernel_rfl
@[go_sem] theorem Tryd.ty64 : tinf Tryd.prog 64 = some ⟨.fn, false, 1, 8, .v .nilFunc⟩ := by kernel_rfl
@[go_sem] theorem Tryd.ty65 : tinf Tryd.prog 65 = some ⟨.fn, false, 1, 8, .v .nilFunc⟩ := by kernel_rfl
@[go_sem] theorem Tryd.ty66 : tinf Tryd.prog 66 = some ⟨.fn, false, 1, 8, .v .nilFunc⟩ := by kernel_rfl
@[go_sem] theorem Tryd.ty67 : tinf Tryd.prog 67 = some ⟨.fn, false, 1, 8, .v .nilFunc⟩ := by kernel_rfl
@[go_sem] theorem Tryd.ty68 : tinf Tryd.prog 68 = some ⟨.st [(0, 22)], true, 1, 24, .agg [.v (.slice none 0 0)]⟩ := by kernel_rfl
@[go_sem] theorem Tryd.ty69 : tinf Tryd.prog 69 = some ⟨.st [(0, 22)], true, 1, 24, .agg [.v (.slice none 0 0)]⟩ := by kernel_rfl
@[go_sem] theorem Tryd.ty70 : tinf Tryd.prog 70 = some ⟨.fn, false, 1, 8, .v .nilFunc⟩ := by kernel_rfl
@[go_sem] theorem Tryd.ty71 : tinf Tryd.prog 71 = some ⟨.fn, false, 1, 8, .v .nilFunc⟩ := by kernel_rfl
@[go_sem] theorem Tryd.ty72 : tinf Tryd.prog 72 = some ⟨.sl 3, false, 1, 24, .v (.slice none 0 0)⟩ := by kernel_rfl
@[go_sem] theorem Tryd.ty73 : tinf Tryd.prog 73 = some ⟨.fn, false, 1, 8, .v .nilFunc⟩ := by kernel_rfl
@[go_sem] theorem Tryd.ty74 : tinf Tryd.prog 74 = some ⟨.fn, false, 1, 8, .v .nilFunc⟩ := by kernel_rfl
@[go_sem] theorem Tryd.ty75 : tinf Tryd.prog 75 = some ⟨.fn, false, 1, 8, .v .nilFunc⟩ := by kernel_rfl
@[go_sem] theorem Tryd.ty76 : tinf Tryd.prog 76 = some ⟨.fn, false, 1, 8, .v .nilFunc⟩ := by kernel_rfl
@[go_sem] theorem Tryd.ty77 : tinf Tryd.prog 77 = some ⟨.fn, false, 1, 8, .v .nilFunc⟩ := by kernel_rfl
@[go_sem] theorem Tryd.ty78 : tinf Tryd.prog 78 = some ⟨.fn, false, 1, 8, .v .nilFunc⟩ := by kernel_rfl
@[go_sem] theorem Tryd.ty79 : tinf Tryd.prog 79 = some ⟨.st [(0, 9), (1, 9)], true, 2, 32, .agg [.v (.string ByteArray.empty), .v (.string ByteArray.empty)]⟩ := by kernel_rfl
@[go_sem] theorem Tryd.ty80 : tinf Tryd.prog 80 = some ⟨.st [(0, 9), (1, 9)], true, 2, 32, .agg [.v (.string ByteArray.empty), .v (.string ByteArray.empty)]⟩ := by kernel_rfl
@[go_sem] theorem Tryd.ty81 : tinf Tryd.prog 81 = some ⟨.arr 13 80, true, 26, 416, .agg [.v (.string ByteArray.empty), .v (.string ByteArray.empty), .v (.string ByteArray.empty), .v (.string ByteArray.empty), .v (.string ByteArray.empty), .v (.string ByteArray.empty), .v (.string ByteArray.empty), .v (.string ByteArray.empty), .v (.string ByteArray.empty), .v (.string ByteArray.empty), .v (.string ByteArray.empty), .v (.string ByteArray.empty), .v (.string ByteArray.empty), .v (.string ByteArray.empty), .v (.string ByteArray.empty), .v (.string ByteArray.empty), .v (.string ByteArray.empty), .v (.string ByteArray.empty), .v (.string ByteArray.empty), .v (.string ByteArray.empty), .v (.string ByteArray.empty), .v (.string ByteArray.empty), .v (.string ByteArray.empty), .v (.string ByteArray.empty), .v (.string ByteArray.empty), .v (.string ByteArray.empty)]⟩ := by kernel_rfl
@[go_sem] theorem Tryd.ty82 : tinf Tryd.prog 82 = some ⟨.arr 3 3, true, 3, 24, .agg [.v (.int .i64 0), .v (.int .i64 0), .v (.int .i64 0)]⟩ := by kernel_rfl
@[go_sem] theorem Tryd.ty83 : tinf Tryd.prog 83 = some ⟨.fn, false, 1, 8, .v .nilFunc⟩ := by kernel_rfl
@[go_sem] theorem Tryd.ty84 : tinf Tryd.prog 84 = some ⟨.ptr 5, false, 1, 8, .v (.pointer none)⟩ := by kernel_rfl
@[go_sem] theorem Tryd.ty85 : tinf Tryd.prog 85 = some ⟨.fn, false, 1, 8, .v .nilFunc⟩ := by kernel_rfl
@[go_sem] theorem Tryd.ty86 : tinf Tryd.prog 86 = some ⟨.ptr 88, false, 1, 8, .v (.pointer none)⟩ := by kernel_rfl
@[go_sem] theorem Tryd.ty87 : tinf Tryd.prog 87 = some ⟨.st [(0, 3), (1, 22), (2, 25)], true, 3, 56, .agg [.v (.int .i64 0), .v (.slice none 0 0), .v (.slice none 0 0)]⟩ := by kernel_rfl
@[go_sem] theorem Tryd.ty88 : tinf Tryd.prog 88 = some ⟨.st [(0, 3), (1, 22), (2, 25)], true, 3, 56, .agg [.v (.int .i64 0), .v (.slice none 0 0), .v (.slice none 0 0)]⟩ := by kernel_rfl
@[go_sem] theorem Tryd.ty89 : tinf Tryd.prog 89 = some ⟨.fn, false, 1, 8, .v .nilFunc⟩ := by kernel_rfl
@[go_sem] theorem Tryd.ty90 : tinf Tryd.prog 90 = some ⟨.ptr 27, false, 1, 8, .v (.pointer none)⟩ := by kernel_rfl
@[go_sem] theorem Tryd.ty92 : tinf Tryd.prog 92 = some ⟨.fn, false, 1, 8, .v .nilFunc⟩ := by kernel_rfl
@[go_sem] theorem Tryd.ty94 : tinf Tryd.prog 94 = some ⟨.fn, false, 1, 8, .v .nilFunc⟩ := by kernel_rfl
@[go_sem] theorem Tryd.ty95 : tinf Tryd.prog 95 = some ⟨.fn, false, 1, 8, .v .nilFunc⟩ := by kernel_rfl
@[go_sem] theorem Tryd.ty96 : tinf Tryd.prog 96 = some ⟨.fn, false, 1, 8, .v .nilFunc⟩ := by kernel_rfl
@[go_sem] theorem Tryd.ty98 : tinf Tryd.prog 98 = some ⟨.fn, false, 1, 8, .v .nilFunc⟩ := by kernel_rfl
@[go_sem] theorem Tryd.ty99 : tinf Tryd.prog 99 = some ⟨.fn, false, 1, 8, .v .nilFunc⟩ := by kernel_rfl
@[go_sem] theorem Tryd.ty100 : tinf Tryd.prog 100 = some ⟨.fn, false, 1, 8, .v .nilFunc⟩ := by kernel_rfl
@[go_sem] theorem Tryd.ty102 : tinf Tryd.prog 102 = some ⟨.fn, false, 1, 8, .v .nilFunc⟩ := by kernel_rfl
@[go_sem] theorem Tryd.ty104 : tinf Tryd.prog 104 = some ⟨.fn, false, 1, 8, .v .nilFunc⟩ := by kernel_rfl
@[go_sem] theorem Tryd.ty105 : tinf Tryd.prog 105 = some ⟨.fn, false, 1, 8, .v .nilFunc⟩ := by kernel_rfl
@[go_sem] theorem Tryd.ty106 : tinf Tryd.prog 106 = some ⟨.sl 80, false, 1, 24, .v (.slice none 0 0)⟩ := by kernel_rfl
@[go_sem] theorem Tryd.ty107 : tinf Tryd.prog 107 = some ⟨.fn, false, 1, 8, .v .nilFunc⟩ := by kernel_rfl
@[go_sem] theorem Tryd.ty108 : tinf Tryd.prog 108 = some ⟨.fn, false, 1, 8, .v .nilFunc⟩ := by kernel_rfl
@[go_sem] theorem Tryd.ty109 : tinf Tryd.prog 109 = some ⟨.fn, false, 1, 8, .v .nilFunc⟩ := by kernel_rfl
@[go_sem] theorem Tryd.ty110 : tinf Tryd.prog 110 = some ⟨.arr 24 5, true, 24, 24, .agg [.v (.int .u8 0), .v (.int .u8 0), .v (.int .u8 0), .v (.int .u8 0), .v (.int .u8 0), .v (.int .u8 0), .v (.int .u8 0), .v (.int .u8 0), .v (.int .u8 0), .v (.int .u8 0), .v (.int .u8 0), .v (.int .u8 0), .v (.int .u8 0), .v (.int .u8 0), .v (.int .u8 0), .v (.int .u8 0), .v (.int .u8 0), .v (.int .u8 0), .v (.int .u8 0), .v (.int .u8 0), .v (.int .u8 0), .v (.int .u8 0), .v (.int .u8 0), .v (.int .u8 0)]⟩ := by kernel_rfl
@[go_sem] theorem Tryd.ty111 : tinf Tryd.prog 111 = some ⟨.int .u64, false, 1, 8, .v (.int .u64 0)⟩ := by kernel_rfl
@[go_sem] theorem Tryd.ty112 : tinf Tryd.prog 112 = some ⟨.fn, false, 1, 8, .v .nilFunc⟩ := by kernel_rfl
@[go_sem] theorem Tryd.ty113 : tinf Tryd.prog 113 = some ⟨.fn, false, 1, 8, .v .nilFunc⟩ := by kernel_rfl
@[go_sem] theorem Tryd.ty115 : tinf Tryd.prog 115 = some ⟨.fn, false, 1, 8, .v .nilFunc⟩ := by kernel_rfl
@[go_sem] theorem Tryd.ty116 : tinf Tryd.prog 116 = some ⟨.fn, false, 1, 8, .v .nilFunc⟩ := by kernel_rfl
@[go_sem] theorem Tryd.ty117 : tinf Tryd.prog 117 = some ⟨.fn, false, 1, 8, .v .nilFunc⟩ := by kernel_rfl
@[go_sem] theorem Tryd.ty118 : tinf Tryd.prog 118 = some ⟨.fn, false, 1, 8, .v .nilFunc⟩ := by kernel_rfl
@[go_sem] theorem Tryd.ty120 : tinf Tryd.prog 120 = some ⟨.fn, false, 1, 8, .v .nilFunc⟩ := by kernel_rfl
@[go_sem] theorem Tryd.ty121 : tinf Tryd.prog 121 = some ⟨.fn, false, 1, 8, .v .nilFunc⟩ := by kernel_rfl
@[go_sem] theorem Tryd.ty122 : tinf Tryd.prog 122 = some ⟨.arr 20 111, true, 20, 160, .agg [.v (.int .u64 0), .v (.int .u64 0), .v (.int .u64 0), .v (.int .u64 0), .v (.int .u64 0), .v (.int .u64 0), .v (.int .u64 0), .v (.int .u64 0), .v (.int .u64 0), .v (.int .u64 0), .v (.int .u64 0), .v (.int .u64 0), .v (.int .u64 0), .v (.int .u64 0), .v (.int .u64 0), .v (.int .u64 0), .v (.int .u64 0), .v (.int .u64 0), .v (.int .u64 0), .v (.int .u64 0)]⟩ := by kernel_rfl
@[go_sem] theorem Tryd.ty123 : tinf Tryd.prog 123 = some ⟨.int .u32, false, 1, 4, .v (.int .u32 0)⟩ := by kernel_rfl
@[go_sem] theorem Tryd.ty124 : tinf Tryd.prog 124 = some ⟨.arr 65 5, true, 65, 65, .agg [.v (.int .u8 0), .v (.int .u8 0), .v (.int .u8 0), .v (.int .u8 0), .v (.int .u8 0), .v (.int .u8 0), .v (.int .u8 0), .v (.int .u8 0), .v (.int .u8 0), .v (.int .u8 0), .v (.int .u8 0), .v (.int .u8 0), .v (.int .u8 0), .v (.int .u8 0), .v (.int .u8 0), .v (.int .u8 0), .v (.int .u8 0), .v (.int .u8 0), .v (.int .u8 0), .v (.int .u8 0), .v (.int .u8 0), .v (.int .u8 0), .v (.int .u8 0), .v (.int .u8 0), .v (.int .u8 0), .v (.int .u8 0), .v (.int .u8 0), .v (.int .u8 0), .v (.int .u8 0), .v (.int .u8 0), .v (.int .u8 0), .v (.int .u8 0), .v (.int .u8 0), .v (.int .u8 0), .v (.int .u8 0), .v (.int .u8 0), .v (.int .u8 0), .v (.int .u8 0), .v (.int .u8 0), .v (.int .u8 0), .v (.int .u8 0), .v (.int .u8 0), .v (.int .u8 0), .v (.int .u8 0), .v (.int .u8 0), .v (.int .u8 0), .v (.int .u8 0), .v (.int .u8 0), .v (.int .u8 0), .v (.int .u8 0), .v (.int .u8 0), .v (.int .u8 0), .v (.int .u8 0), .v (.int .u8 0), .v (.int .u8 0), .v (.int .u8 0), .v (.int .u8 0), .v (.int .u8 0), .v (.int .u8 0), .v (.int .u8 0), .v (.int .u8 0), .v (.int .u8 0), .v (.int .u8 0), .v (.int .u8 0), .v (.int .u8 0)]⟩ := by kernel_rfl
@[go_sem] theorem Tryd.ty125 : tinf Tryd.prog 125 = some ⟨.fn, false, 1, 8, .v .nilFunc⟩ := by kernel_rfl
@[go_sem] theorem Tryd.ty126 : tinf Tryd.prog 126 = some ⟨.int .u64, false, 1, 8, .v (.int .u64 0)⟩ := by kernel_rfl
@[go_sem] theorem Tryd.ty127 : tinf Tryd.prog 127 = some ⟨.fn, false, 1, 8, .v .nilFunc⟩ := by kernel_rfl
@[go_sem] theorem Tryd.ty128 : tinf Tryd.prog 128 = some ⟨.fn, false, 1, 8, .v .nilFunc⟩ := by kernel_rfl
@[go_sem] theorem Tryd.ty129 : tinf Tryd.prog 129 = some ⟨.fn, false, 1, 8, .v .nilFunc⟩ := by kernel_rfl
@[go_sem] theorem Tryd.ty131 : tinf Tryd.prog 131 = some ⟨.fn, false, 1, 8, .v .nilFunc⟩ := by kernel_rfl
@[go_sem] theorem Tryd.ty132 : tinf Tryd.prog 132 = some ⟨.fn, false, 1, 8, .v .nilFunc⟩ := by kernel_rfl
@[go_sem] theorem Tryd.ty133 : tinf Tryd.prog 133 = some ⟨.fn, false, 1, 8, .v .nilFunc⟩ := by kernel_rfl
@[go_sem] theorem Tryd.ty134 : tinf Tryd.prog 134 = some ⟨.fn, false, 1, 8, .v .nilFunc⟩ := by kernel_rfl
@[go_sem] theorem Tryd.ty135 : tinf Tryd.prog 135 = some ⟨.fn, false, 1, 8, .v .nilFunc⟩ := by kernel_rfl
@[go_sem] theorem Tryd.ty136 : tinf Tryd.prog 136 = some ⟨.int .i64, false, 1, 8, .v (.int .i64 0)⟩ := by kernel_rfl
@[go_sem] theorem Tryd.ty138 : tinf Tryd.prog 138 = some ⟨.fn, false, 1, 8, .v .nilFunc⟩ := by kernel_rfl
@[go_sem] theorem Tryd.ty139 : tinf Tryd.prog 139 = some ⟨.ptr 153, false, 1, 8, .v (.pointer none)⟩ := by kernel_rfl
@[go_sem] theorem Tryd.ty140 : tinf Tryd.prog 140 = some ⟨.fn, false, 1, 8, .v .nilFunc⟩ := by kernel_rfl
@[go_sem] theorem Tryd.ty141 : tinf Tryd.prog 141 = some ⟨.fn, false, 1, 8, .v .nilFunc⟩ := by kernel_rfl
@[go_sem] theorem Tryd.ty142 : tinf Tryd.prog 142 = some ⟨.arr 32 5, true, 32, 32, .agg [.v (.int .u8 0), .v (.int .u8 0), .v (.int .u8 0), .v (.int .u8 0), .v (.int .u8 0), .v (.int .u8 0), .v (.int .u8 0), .v (.int .u8 0), .v (.int .u8 0), .v (.int .u8 0), .v (.int .u8 0), .v (.int .u8 0), .v (.int .u8 0), .v (.int .u8 0), .v (.int .u8 0), .v (.int .u8 0), .v (.int .u8 0), .v (.int .u8 0), .v (.int .u8 0), .v (.int .u8 0), .v (.int .u8 0), .v (.int .u8 0), .v (.int .u8 0), .v (.int .u8 0), .v (.int .u8 0), .v (.int .u8 0), .v (.int .u8 0), .v (.int .u8 0), .v (.int .u8 0), .v (.int .u8 0), .v (.int .u8 0), .v (.int .u8 0)]⟩ := by kernel_rfl
@[go_sem] theorem Tryd.ty143 : tinf Tryd.prog 143 = some ⟨.arr 64 5, true, 64, 64, .agg [.v (.int .u8 0), .v (.int .u8 0), .v (.int .u8 0), .v (.int .u8 0), .v (.int .u8 0), .v (.int .u8 0), .v (.int .u8 0), .v (.int .u8 0), .v (.int .u8 0), .v (.int .u8 0), .v (.int .u8 0), .v (.int .u8 0), .v (.int .u8 0), .v (.int .u8 0), .v (.int .u8 0), .v (.int .u8 0), .v (.int .u8 0), .v (.int .u8 0), .v (.int .u8 0), .v (.int .u8 0), .v (.int .u8 0), .v (.int .u8 0), .v (.int .u8 0), .v (.int .u8 0), .v (.int .u8 0), .v (.int .u8 0), .v (.int .u8 0), .v (.int .u8 0), .v (.int .u8 0), .v (.int .u8 0), .v (.int .u8 0), .v (.int .u8 0), .v (.int .u8 0), .v (.int .u8 0), .v (.int .u8 0), .v (.int .u8 0), .v (.int .u8 0), .v (.int .u8 0), .v (.int .u8 0), .v (.int .u8 0), .v (.int .u8 0), .v (.int .u8 0), .v (.int .u8 0), .v (.int .u8 0), .v (.int .u8 0), .v (.int .u8 0), .v (.int .u8 0), .v (.int .u8 0), .v (.int .u8 0), .v (.int .u8 0), .v (.int .u8 0), .v (.int .u8 0), .v (.int .u8 0), .v (.int .u8 0), .v (.int .u8 0), .v (.int .u8 0), .v (.int .u8 0), .v (.int .u8 0), .v (.int .u8 0), .v (.int .u8 0), .v (.int .u8 0), .v (.int .u8 0), .v (.int .u8 0), .v (.int .u8 0)]⟩ := by kernel_rfl
@[go_sem] theorem Tryd.ty145 : tinf Tryd.prog 145 = some ⟨.st [(0, 5), (1, 5)], true, 2, 2, .agg [.v (.int .u8 0), .v (.int .u8 0)]⟩ := by kernel_rfl
@[go_sem] theorem Tryd.ty146 : tinf Tryd.prog 146 = some ⟨.st [(0, 5), (1, 5)], true, 2, 2, .agg [.v (.int .u8 0), .v (.int .u8 0)]⟩ := by kernel_rfl
@[go_sem] theorem Tryd.ty147 : tinf Tryd.prog 147 = some ⟨.arr 16 146, true, 32, 32, .agg [.v (.int .u8 0), .v (.int .u8 0), .v (.int .u8 0), .v (.int .u8 0), .v (.int .u8 0), .v (.int .u8 0), .v (.int .u8 0), .v (.int .u8 0), .v (.int .u8 0), .v (.int .u8 0), .v (.int .u8 0), .v (.int .u8 0), .v (.int .u8 0), .v (.int .u8 0), .v (.int .u8 0), .v (.int .u8 0), .v (.int .u8 0), .v (.int .u8 0), .v (.int .u8 0), .v (.int .u8 0), .v (.int .u8 0), .v (.int .u8 0), .v (.int .u8 0), .v (.int .u8 0), .v (.int .u8 0), .v (.int .u8 0), .v (.int .u8 0), .v (.int .u8 0), .v (.int .u8 0), .v (.int .u8 0), .v (.int .u8 0), .v (.int .u8 0)]⟩ := by kernel_rfl
@[go_sem] theorem Tryd.ty149 : tinf Tryd.prog 149 = some ⟨.fn, false, 1, 8, .v .nilFunc⟩ := by kernel_rfl
@[go_sem] theorem Tryd.ty150 : tinf Tryd.prog 150 = some ⟨.fn, false, 1, 8, .v .nilFunc⟩ := by kernel_rfl
@[go_sem] theorem Tryd.ty151 : tinf Tryd.prog 151 = some ⟨.fn, false, 1, 8, .v .nilFunc⟩ := by kernel_rfl
@[go_sem] theorem Tryd.ty152 : tinf Tryd.prog 152 = some ⟨.st [(0, 9), (1, 9), (2, 52)], true, 3, 48, .agg [.v (.string ByteArray.empty), .v (.string ByteArray.empty), .v .nilIface]⟩ := by kernel_rfl
@[go_sem] theorem Tryd.ty153 : tinf Tryd.prog 153 = some ⟨.st [(0, 9), (1, 9), (2, 52)], true, 3, 48, .agg [.v (.string ByteArray.empty), .v (.string ByteArray.empty), .v .nilIface]⟩ := by kernel_rfl
@[go_sem] theorem Tryd.ty154 : tinf Tryd.prog 154 = some ⟨.fn, false, 1, 8, .v .nilFunc⟩ := by kernel_rfl
@[go_sem] theorem Tryd.ty155 : tinf Tryd.prog 155 = some ⟨.ptr 157, false, 1, 8, .v (.pointer none)⟩ := by kernel_rfl
@[go_sem] theorem Tryd.ty156 : tinf Tryd.prog 156 = some ⟨.st [(0, 9)], true, 1, 16, .agg [.v (.string ByteArray.empty)]⟩ := by kernel_rfl
@[go_sem] theorem Tryd.ty157 : tinf Tryd.prog 157 = some ⟨.st [(0, 9)], true, 1, 16, .agg [.v (.string ByteArray.empty)]⟩ := by kernel_rfl
@[go_sem] theorem Tryd.ty158 : tinf Tryd.prog 158 = some ⟨.st [(0, 17), (1, 17), (2, 17), (3, 9)], true, 4, 40, .agg [.v (.pointer none), .v (.pointer none), .v (.pointer none), .v (.string ByteArray.empty)]⟩ := by kernel_rfl
@[go_sem] theorem Tryd.ty159 : tinf Tryd.prog 159 = some ⟨.st [(0, 17), (1, 17), (2, 17), (3, 9)], true, 4, 40, .agg [.v (.pointer none), .v (.pointer none), .v (.pointer none), .v (.string ByteArray.empty)]⟩ := by kernel_rfl
@[go_sem] theorem Tryd.ty160 : tinf Tryd.prog 160 = some ⟨.arr 0 16, true, 0, 0, .agg []⟩ := by kernel_rfl
@[go_sem] theorem Tryd.ty161 : tinf Tryd.prog 161 = some ⟨.st [(0, 160)], true, 0, 0, .agg []⟩ := by kernel_rfl
@[go_sem] theorem Tryd.ty162 : tinf Tryd.prog 162 = some ⟨.st [(0, 160)], true, 0, 0, .agg []⟩ := by kernel_rfl
@[go_sem] theorem Tryd.ty163 : tinf Tryd.prog 163 = some ⟨.fn, false, 1, 8, .v .nilFunc⟩ := by kernel_rfl
@[go_sem] theorem Tryd.ty164 : tinf Tryd.prog 164 = some ⟨.int .u8, false, 1, 1, .v (.int .u8 0)⟩ := by kernel_rfl
@[go_sem] theorem Tryd.ty165 : tinf Tryd.prog 165 = some ⟨.int .u8, false, 1, 1, .v (.int .u8 0)⟩ := by kernel_rfl
@[go_sem] theorem Tryd.ty166 : tinf Tryd.prog 166 = some ⟨.fn, false, 1, 8, .v .nilFunc⟩ := by kernel_rfl
@[go_sem] theorem Tryd.ty167 : tinf Tryd.prog 167 = some ⟨.int .i32, false, 1, 4, .v (.int .i32 0)⟩ := by kernel_rfl
@[go_sem] theorem Tryd.ty168 : tinf Tryd.prog 168 = some ⟨.int .i32, false, 1, 4, .v (.int .i32 0)⟩ := by kernel_rfl
@[go_sem] theorem Tryd.ty169 : tinf Tryd.prog 169 = some ⟨.st [(0, 12), (1, 12), (2, 123), (3, 164), (4, 5), (5, 5), (6, 165), (7, 166), (8, 84), (9, 167), (10, 168)], true, 11, 48, .agg [.v (.int .u64 0), .v (.int .u64 0), .v (.int .u32 0), .v (.int .u8 0), .v (.int .u8 0), .v (.int .u8 0), .v (.int .u8 0), .v .nilFunc, .v (.pointer none), .v (.int .i32 0), .v (.int .i32 0)]⟩ := by kernel_rfl
@[go_sem] theorem Tryd.ty170 : tinf Tryd.prog 170 = some ⟨.st [(0, 12), (1, 12), (2, 123), (3, 164), (4, 5), (5, 5), (6, 165), (7, 166), (8, 84), (9, 167), (10, 168)], true, 11, 48, .agg [.v (.int .u64 0), .v (.int .u64 0), .v (.int .u32 0), .v (.int .u8 0), .v (.int .u8 0), .v (.int .u8 0), .v (.int .u8 0), .v .nilFunc, .v (.pointer none), .v (.int .i32 0), .v (.int .i32 0)]⟩ := by kernel_rfl
theorem Tryd.mixed : Tryd.prog.follows .mixedOrders = true := by kernel_rfl
end Go.Proofs.YtdlekkhjkcbbnaaDoor
