/-
  The types of this seat, as a walk needs them. Written by a program (gen_ty.py).
-/
import Derived.Test.YtdlekkhjkcbbnaaGreatDoorAbR
import Derived.Test.YtdlekkhjkcbbnaaGreatDoorRows
namespace Go.Proofs.YtdlekkhjkcbbnaaGreatDoor
open Go.Ab
@[go_sem] theorem Tryz.ty1 : tinf Tryz.prog 1 = some ⟨.fn, false, 1, 8, .v .nilFunc⟩ := by kernel_rfl
@[go_sem] theorem Tryz.ty2 : tinf Tryz.prog 2 = some ⟨.int .i64, false, 1, 8, .v (.int .i64 0)⟩ := by kernel_rfl
@[go_sem] theorem Tryz.ty3 : tinf Tryz.prog 3 = some ⟨.int .i64, false, 1, 8, .v (.int .i64 0)⟩ := by kernel_rfl
@[go_sem] theorem Tryz.ty4 : tinf Tryz.prog 4 = some ⟨.bool, false, 1, 1, .v (.bool false)⟩ := by kernel_rfl
@[go_sem] theorem Tryz.ty5 : tinf Tryz.prog 5 = some ⟨.int .u8, false, 1, 1, .v (.int .u8 0)⟩ := by kernel_rfl
@[go_sem] theorem Tryz.ty6 : tinf Tryz.prog 6 = some ⟨.int .u8, false, 1, 1, .v (.int .u8 0)⟩ := by kernel_rfl
@[go_sem] theorem Tryz.ty7 : tinf Tryz.prog 7 = some ⟨.st [(0, 2), (1, 3), (2, 4), (3, 6)], true, 4, 24, .agg [.v (.int .i64 0), .v (.int .i64 0), .v (.bool false), .v (.int .u8 0)]⟩ := by kernel_rfl
@[go_sem] theorem Tryz.ty8 : tinf Tryz.prog 8 = some ⟨.st [(0, 2), (1, 3), (2, 4), (3, 6)], true, 4, 24, .agg [.v (.int .i64 0), .v (.int .i64 0), .v (.bool false), .v (.int .u8 0)]⟩ := by kernel_rfl
@[go_sem] theorem Tryz.ty9 : tinf Tryz.prog 9 = some ⟨.str, false, 1, 16, .v (.string ByteArray.empty)⟩ := by kernel_rfl
@[go_sem] theorem Tryz.ty10 : tinf Tryz.prog 10 = some ⟨.str, false, 1, 16, .v (.string ByteArray.empty)⟩ := by kernel_rfl
@[go_sem] theorem Tryz.ty11 : tinf Tryz.prog 11 = some ⟨.str, false, 1, 16, .v (.string ByteArray.empty)⟩ := by kernel_rfl
@[go_sem] theorem Tryz.ty12 : tinf Tryz.prog 12 = some ⟨.int .u64, false, 1, 8, .v (.int .u64 0)⟩ := by kernel_rfl
@[go_sem] theorem Tryz.ty13 : tinf Tryz.prog 13 = some ⟨.st [(0, 9), (1, 12)], true, 2, 24, .agg [.v (.string ByteArray.empty), .v (.int .u64 0)]⟩ := by kernel_rfl
@[go_sem] theorem Tryz.ty14 : tinf Tryz.prog 14 = some ⟨.st [(0, 9), (1, 12)], true, 2, 24, .agg [.v (.string ByteArray.empty), .v (.int .u64 0)]⟩ := by kernel_rfl
@[go_sem] theorem Tryz.ty15 : tinf Tryz.prog 15 = some ⟨.ptr 167, false, 1, 8, .v (.pointer none)⟩ := by kernel_rfl
@[go_sem] theorem Tryz.ty16 : tinf Tryz.prog 16 = some ⟨.ptr 170, false, 1, 8, .v (.pointer none)⟩ := by kernel_rfl
@[go_sem] theorem Tryz.ty17 : tinf Tryz.prog 17 = some ⟨.ptr 178, false, 1, 8, .v (.pointer none)⟩ := by kernel_rfl
@[go_sem] theorem Tryz.ty18 : tinf Tryz.prog 18 = some ⟨.st [(0, 17)], true, 1, 8, .agg [.v (.pointer none)]⟩ := by kernel_rfl
@[go_sem] theorem Tryz.ty19 : tinf Tryz.prog 19 = some ⟨.st [(0, 17)], true, 1, 8, .agg [.v (.pointer none)]⟩ := by kernel_rfl
@[go_sem] theorem Tryz.ty20 : tinf Tryz.prog 20 = some ⟨.ifc, false, 1, 16, .v .nilIface⟩ := by kernel_rfl
@[go_sem] theorem Tryz.ty21 : tinf Tryz.prog 21 = some ⟨.int .i32, false, 1, 4, .v (.int .i32 0)⟩ := by kernel_rfl
@[go_sem] theorem Tryz.ty22 : tinf Tryz.prog 22 = some ⟨.sl 32, false, 1, 24, .v (.slice none 0 0)⟩ := by kernel_rfl
@[go_sem] theorem Tryz.ty23 : tinf Tryz.prog 23 = some ⟨.sl 9, false, 1, 24, .v (.slice none 0 0)⟩ := by kernel_rfl
@[go_sem] theorem Tryz.ty24 : tinf Tryz.prog 24 = some ⟨.st [(0, 22), (1, 23), (2, 3)], true, 3, 56, .agg [.v (.slice none 0 0), .v (.slice none 0 0), .v (.int .i64 0)]⟩ := by kernel_rfl
@[go_sem] theorem Tryz.ty25 : tinf Tryz.prog 25 = some ⟨.st [(0, 22), (1, 23), (2, 3)], true, 3, 56, .agg [.v (.slice none 0 0), .v (.slice none 0 0), .v (.int .i64 0)]⟩ := by kernel_rfl
@[go_sem] theorem Tryz.ty26 : tinf Tryz.prog 26 = some ⟨.sl 5, false, 1, 24, .v (.slice none 0 0)⟩ := by kernel_rfl
@[go_sem] theorem Tryz.ty27 : tinf Tryz.prog 27 = some ⟨.fn, false, 1, 8, .v .nilFunc⟩ := by kernel_rfl
@[go_sem] theorem Tryz.ty28 : tinf Tryz.prog 28 = some ⟨.fn, false, 1, 8, .v .nilFunc⟩ := by kernel_rfl
@[go_sem] theorem Tryz.ty29 : tinf Tryz.prog 29 = some ⟨.fn, false, 1, 8, .v .nilFunc⟩ := by kernel_rfl
@[go_sem] theorem Tryz.ty30 : tinf Tryz.prog 30 = some ⟨.ptr 32, false, 1, 8, .v (.pointer none)⟩ := by kernel_rfl
@[go_sem] theorem Tryz.ty31 : tinf Tryz.prog 31 = some ⟨.st [(0, 3), (1, 3), (2, 3), (3, 3)], true, 4, 32, .agg [.v (.int .i64 0), .v (.int .i64 0), .v (.int .i64 0), .v (.int .i64 0)]⟩ := by kernel_rfl
@[go_sem] theorem Tryz.ty32 : tinf Tryz.prog 32 = some ⟨.st [(0, 3), (1, 3), (2, 3), (3, 3)], true, 4, 32, .agg [.v (.int .i64 0), .v (.int .i64 0), .v (.int .i64 0), .v (.int .i64 0)]⟩ := by kernel_rfl
@[go_sem] theorem Tryz.ty33 : tinf Tryz.prog 33 = some ⟨.sl 25, false, 1, 24, .v (.slice none 0 0)⟩ := by kernel_rfl
@[go_sem] theorem Tryz.ty34 : tinf Tryz.prog 34 = some ⟨.int .i64, false, 1, 8, .v (.int .i64 0)⟩ := by kernel_rfl
@[go_sem] theorem Tryz.ty36 : tinf Tryz.prog 36 = some ⟨.fn, false, 1, 8, .v .nilFunc⟩ := by kernel_rfl
@[go_sem] theorem Tryz.ty38 : tinf Tryz.prog 38 = some ⟨.fn, false, 1, 8, .v .nilFunc⟩ := by kernel_rfl
@[go_sem] theorem Tryz.ty39 : tinf Tryz.prog 39 = some ⟨.fn, false, 1, 8, .v .nilFunc⟩ := by kernel_rfl
@[go_sem] theorem Tryz.ty40 : tinf Tryz.prog 40 = some ⟨.fn, false, 1, 8, .v .nilFunc⟩ := by kernel_rfl
@[go_sem] theorem Tryz.ty41 : tinf Tryz.prog 41 = some ⟨.int .u16, false, 1, 2, .v (.int .u16 0)⟩ := by kernel_rfl
@[go_sem] theorem Tryz.ty43 : tinf Tryz.prog 43 = some ⟨.fn, false, 1, 8, .v .nilFunc⟩ := by kernel_rfl
@[go_sem] theorem Tryz.ty44 : tinf Tryz.prog 44 = some ⟨.fn, false, 1, 8, .v .nilFunc⟩ := by kernel_rfl
@[go_sem] theorem Tryz.ty45 : tinf Tryz.prog 45 = some ⟨.ptr 82, false, 1, 8, .v (.pointer none)⟩ := by kernel_rfl
@[go_sem] theorem Tryz.ty46 : tinf Tryz.prog 46 = some ⟨.fn, false, 1, 8, .v .nilFunc⟩ := by kernel_rfl
@[go_sem] theorem Tryz.ty47 : tinf Tryz.prog 47 = some ⟨.fn, false, 1, 8, .v .nilFunc⟩ := by kernel_rfl
@[go_sem] theorem Tryz.ty48 : tinf Tryz.prog 48 = some ⟨.fn, false, 1, 8, .v .nilFunc⟩ := by kernel_rfl
@[go_sem] theorem Tryz.ty49 : tinf Tryz.prog 49 = some ⟨.fn, false, 1, 8, .v .nilFunc⟩ := by kernel_rfl
@[go_sem] theorem Tryz.ty50 : tinf Tryz.prog 50 = some ⟨.fn, false, 1, 8, .v .nilFunc⟩ := by kernel_rfl
@[go_sem] theorem Tryz.ty51 : tinf Tryz.prog 51 = some ⟨.fn, false, 1, 8, .v .nilFunc⟩ := by kernel_rfl
@[go_sem] theorem Tryz.ty52 : tinf Tryz.prog 52 = some ⟨.fn, false, 1, 8, .v .nilFunc⟩ := by kernel_rfl
@[go_sem] theorem Tryz.ty53 : tinf Tryz.prog 53 = some ⟨.ptr 55, false, 1, 8, .v (.pointer none)⟩ := by kernel_rfl
@[go_sem] theorem Tryz.ty54 : tinf Tryz.prog 54 = some ⟨.st [(0, 53), (1, 26)], true, 2, 32, .agg [.v (.pointer none), .v (.slice none 0 0)]⟩ := by kernel_rfl
@[go_sem] theorem Tryz.ty55 : tinf Tryz.prog 55 = some ⟨.st [(0, 53), (1, 26)], true, 2, 32, .agg [.v (.pointer none), .v (.slice none 0 0)]⟩ := by kernel_rfl
@[go_sem] theorem Tryz.ty56 : tinf Tryz.prog 56 = some ⟨.ifc, false, 1, 16, .v .nilIface⟩ := by kernel_rfl
@[go_sem] theorem Tryz.ty57 : tinf Tryz.prog 57 = some ⟨.ifc, false, 1, 16, .v .nilIface⟩ := by kernel_rfl
@[go_sem] theorem Tryz.ty59 : tinf Tryz.prog 59 = some ⟨.fn, false, 1, 8, .v .nilFunc⟩ := by kernel_rfl
@[go_sem] theorem Tryz.ty60 : tinf Tryz.prog 60 = some ⟨.fn, false, 1, 8, .v .nilFunc⟩ := by kernel_rfl
@[go_sem] theorem Tryz.ty61 : tinf Tryz.prog 61 = some ⟨.fn, false, 1, 8, .v .nilFunc⟩ := by kernel_rfl
@[go_sem] theorem Tryz.ty62 : tinf Tryz.prog 62 = some ⟨.fn, false, 1, 8, .v .nilFunc⟩ := by kernel_rfl
@[go_sem] theorem Tryz.ty63 : tinf Tryz.prog 63 = some ⟨.fn, false, 1, 8, .v .nilFunc⟩ := by kernel_rfl
@[go_sem] theorem Tryz.ty65 : tinf Tryz.prog 65 = some ⟨.fn, false, 1, 8, .v .nilFunc⟩ := by kernel_rfl
@[go_sem] theorem Tryz.ty66 : tinf Tryz.prog 66 = some ⟨.sl 3, false, 1, 24, .v (.slice none 0 0)⟩ := by kernel_rfl
@[go_sem] theorem Tryz.ty67 : tinf Tryz.prog 67 = some ⟨.fn, false, 1, 8, .v .nilFunc⟩ := by kernel_rfl
@[go_sem] theorem Tryz.ty68 : tinf Tryz.prog 68 = some ⟨.fn, false, 1, 8, .v .nilFunc⟩ := by kernel_rfl
@[go_sem] theorem Tryz.ty69 : tinf Tryz.prog 69 = some ⟨.fn, false, 1, 8, .v .nilFunc⟩ := by kernel_rfl
@[go_sem] theorem Tryz.ty70 : tinf Tryz.prog 70 = some ⟨.ptr 72, false, 1, 8, .v (.pointer none)⟩ := by kernel_rfl
@[go_sem] theorem Tryz.ty71 : tinf Tryz.prog 71 = some ⟨.st [(0, 25), (3, 4)], true, 4, 64, .agg [.v (.slice none 0 0), .v (.slice none 0 0), .v (.int .i64 0), .v (.bool false)]⟩ := by kernel_rfl
@[go_sem] theorem Tryz.ty72 : tinf Tryz.prog 72 = some ⟨.st [(0, 25), (3, 4)], true, 4, 64, .agg [.v (.slice none 0 0), .v (.slice none 0 0), .v (.int .i64 0), .v (.bool false)]⟩ := by kernel_rfl
@[go_sem] theorem Tryz.ty73 : tinf Tryz.prog 73 = some ⟨.fn, false, 1, 8, .v .nilFunc⟩ := by kernel_rfl
@[go_sem] theorem Tryz.ty75 : tinf Tryz.prog 75 = some ⟨.fn, false, 1, 8, .v .nilFunc⟩ := by kernel_rfl
@[go_sem] theorem Tryz.ty76 : tinf Tryz.prog 76 = some ⟨.fn, false, 1, 8, .v .nilFunc⟩ := by kernel_rfl
@[go_sem] theorem Tryz.ty78 : tinf Tryz.prog 78 = some ⟨.fn, false, 1, 8, .v .nilFunc⟩ := by kernel_rfl
@[go_sem] theorem Tryz.ty80 : tinf Tryz.prog 80 = some ⟨.fn, false, 1, 8, .v .nilFunc⟩ := by kernel_rfl
@[go_sem] theorem Tryz.ty81 : tinf Tryz.prog 81 = some ⟨.st [(0, 26)], true, 1, 24, .agg [.v (.slice none 0 0)]⟩ := by kernel_rfl
@[go_sem] theorem Tryz.ty82 : tinf Tryz.prog 82 = some ⟨.st [(0, 26)], true, 1, 24, .agg [.v (.slice none 0 0)]⟩ := by kernel_rfl
@[go_sem] theorem Tryz.ty83 : tinf Tryz.prog 83 = some ⟨.fn, false, 1, 8, .v .nilFunc⟩ := by kernel_rfl
@[go_sem] theorem Tryz.ty84 : tinf Tryz.prog 84 = some ⟨.fn, false, 1, 8, .v .nilFunc⟩ := by kernel_rfl
@[go_sem] theorem Tryz.ty85 : tinf Tryz.prog 85 = some ⟨.fn, false, 1, 8, .v .nilFunc⟩ := by kernel_rfl
@[go_sem] theorem Tryz.ty86 : tinf Tryz.prog 86 = some ⟨.fn, false, 1, 8, .v .nilFunc⟩ := by kernel_rfl
@[go_sem] theorem Tryz.ty87 : tinf Tryz.prog 87 = some ⟨.st [(0, 9), (1, 9)], true, 2, 32, .agg [.v (.string ByteArray.empty), .v (.string ByteArray.empty)]⟩ := by kernel_rfl
@[go_sem] theorem Tryz.ty88 : tinf Tryz.prog 88 = some ⟨.st [(0, 9), (1, 9)], true, 2, 32, .agg [.v (.string ByteArray.empty), .v (.string ByteArray.empty)]⟩ := by kernel_rfl
@[go_sem] theorem Tryz.ty89 : tinf Tryz.prog 89 = some ⟨.arr 13 88, true, 26, 416, .agg [.v (.string ByteArray.empty), .v (.string ByteArray.empty), .v (.string ByteArray.empty), .v (.string ByteArray.empty), .v (.string ByteArray.empty), .v (.string ByteArray.empty), .v (.string ByteArray.empty), .v (.string ByteArray.empty), .v (.string ByteArray.empty), .v (.string ByteArray.empty), .v (.string ByteArray.empty), .v (.string ByteArray.empty), .v (.string ByteArray.empty), .v (.string ByteArray.empty), .v (.string ByteArray.empty), .v (.string ByteArray.empty), .v (.string ByteArray.empty), .v (.string ByteArray.empty), .v (.string ByteArray.empty), .v (.string ByteArray.empty), .v (.string ByteArray.empty), .v (.string ByteArray.empty), .v (.string ByteArray.empty), .v (.string ByteArray.empty), .v (.string ByteArray.empty), .v (.string ByteArray.empty)]⟩ := by kernel_rfl
@[go_sem] theorem Tryz.ty90 : tinf Tryz.prog 90 = some ⟨.arr 3 3, true, 3, 24, .agg [.v (.int .i64 0), .v (.int .i64 0), .v (.int .i64 0)]⟩ := by kernel_rfl
@[go_sem] theorem Tryz.ty91 : tinf Tryz.prog 91 = some ⟨.fn, false, 1, 8, .v .nilFunc⟩ := by kernel_rfl
@[go_sem] theorem Tryz.ty92 : tinf Tryz.prog 92 = some ⟨.fn, false, 1, 8, .v .nilFunc⟩ := by kernel_rfl
@[go_sem] theorem Tryz.ty93 : tinf Tryz.prog 93 = some ⟨.fn, false, 1, 8, .v .nilFunc⟩ := by kernel_rfl
@[go_sem] theorem Tryz.ty94 : tinf Tryz.prog 94 = some ⟨.fn, false, 1, 8, .v .nilFunc⟩ := by kernel_rfl
@[go_sem] theorem Tryz.ty95 : tinf Tryz.prog 95 = some ⟨.fn, false, 1, 8, .v .nilFunc⟩ := by kernel_rfl
@[go_sem] theorem Tryz.ty96 : tinf Tryz.prog 96 = some ⟨.ptr 5, false, 1, 8, .v (.pointer none)⟩ := by kernel_rfl
@[go_sem] theorem Tryz.ty97 : tinf Tryz.prog 97 = some ⟨.int .u64, false, 1, 8, .v (.int .u64 0)⟩ := by kernel_rfl
@[go_sem] theorem Tryz.ty98 : tinf Tryz.prog 98 = some ⟨.fn, false, 1, 8, .v .nilFunc⟩ := by kernel_rfl
@[go_sem] theorem Tryz.ty99 : tinf Tryz.prog 99 = some ⟨.fn, false, 1, 8, .v .nilFunc⟩ := by kernel_rfl
@[go_sem] theorem Tryz.ty100 : tinf Tryz.prog 100 = some ⟨.ptr 102, false, 1, 8, .v (.pointer none)⟩ := by kernel_rfl
@[go_sem] theorem Tryz.ty101 : tinf Tryz.prog 101 = some ⟨.st [(0, 3), (1, 26), (2, 23)], true, 3, 56, .agg [.v (.int .i64 0), .v (.slice none 0 0), .v (.slice none 0 0)]⟩ := by kernel_rfl
@[go_sem] theorem Tryz.ty102 : tinf Tryz.prog 102 = some ⟨.st [(0, 3), (1, 26), (2, 23)], true, 3, 56, .agg [.v (.int .i64 0), .v (.slice none 0 0), .v (.slice none 0 0)]⟩ := by kernel_rfl
@[go_sem] theorem Tryz.ty103 : tinf Tryz.prog 103 = some ⟨.fn, false, 1, 8, .v .nilFunc⟩ := by kernel_rfl
@[go_sem] theorem Tryz.ty104 : tinf Tryz.prog 104 = some ⟨.ptr 25, false, 1, 8, .v (.pointer none)⟩ := by kernel_rfl
@[go_sem] theorem Tryz.ty105 : tinf Tryz.prog 105 = some ⟨.fn, false, 1, 8, .v .nilFunc⟩ := by kernel_rfl
@[go_sem] theorem Tryz.ty107 : tinf Tryz.prog 107 = some ⟨.fn, false, 1, 8, .v .nilFunc⟩ := by kernel_rfl
@[go_sem] theorem Tryz.ty109 : tinf Tryz.prog 109 = some ⟨.fn, false, 1, 8, .v .nilFunc⟩ := by kernel_rfl
@[go_sem] theorem Tryz.ty111 : tinf Tryz.prog 111 = some ⟨.fn, false, 1, 8, .v .nilFunc⟩ := by kernel_rfl
@[go_sem] theorem Tryz.ty112 : tinf Tryz.prog 112 = some ⟨.fn, false, 1, 8, .v .nilFunc⟩ := by kernel_rfl
@[go_sem] theorem Tryz.ty113 : tinf Tryz.prog 113 = some ⟨.fn, false, 1, 8, .v .nilFunc⟩ := by kernel_rfl
@[go_sem] theorem Tryz.ty115 : tinf Tryz.prog 115 = some ⟨.fn, false, 1, 8, .v .nilFunc⟩ := by kernel_rfl
@[go_sem] theorem Tryz.ty116 : tinf Tryz.prog 116 = some ⟨.fn, false, 1, 8, .v .nilFunc⟩ := by kernel_rfl
@[go_sem] theorem Tryz.ty117 : tinf Tryz.prog 117 = some ⟨.sl 88, false, 1, 24, .v (.slice none 0 0)⟩ := by kernel_rfl
@[go_sem] theorem Tryz.ty118 : tinf Tryz.prog 118 = some ⟨.fn, false, 1, 8, .v .nilFunc⟩ := by kernel_rfl
@[go_sem] theorem Tryz.ty119 : tinf Tryz.prog 119 = some ⟨.fn, false, 1, 8, .v .nilFunc⟩ := by kernel_rfl
@[go_sem] theorem Tryz.ty120 : tinf Tryz.prog 120 = some ⟨.arr 24 5, true, 24, 24, .agg [.v (.int .u8 0), .v (.int .u8 0), .v (.int .u8 0), .v (.int .u8 0), .v (.int .u8 0), .v (.int .u8 0), .v (.int .u8 0), .v (.int .u8 0), .v (.int .u8 0), .v (.int .u8 0), .v (.int .u8 0), .v (.int .u8 0), .v (.int .u8 0), .v (.int .u8 0), .v (.int .u8 0), .v (.int .u8 0), .v (.int .u8 0), .v (.int .u8 0), .v (.int .u8 0), .v (.int .u8 0), .v (.int .u8 0), .v (.int .u8 0), .v (.int .u8 0), .v (.int .u8 0)]⟩ := by kernel_rfl
@[go_sem] theorem Tryz.ty121 : tinf Tryz.prog 121 = some ⟨.fn, false, 1, 8, .v .nilFunc⟩ := by kernel_rfl
@[go_sem] theorem Tryz.ty122 : tinf Tryz.prog 122 = some ⟨.fn, false, 1, 8, .v .nilFunc⟩ := by kernel_rfl
@[go_sem] theorem Tryz.ty124 : tinf Tryz.prog 124 = some ⟨.fn, false, 1, 8, .v .nilFunc⟩ := by kernel_rfl
@[go_sem] theorem Tryz.ty125 : tinf Tryz.prog 125 = some ⟨.fn, false, 1, 8, .v .nilFunc⟩ := by kernel_rfl
@[go_sem] theorem Tryz.ty126 : tinf Tryz.prog 126 = some ⟨.fn, false, 1, 8, .v .nilFunc⟩ := by kernel_rfl
@[go_sem] theorem Tryz.ty127 : tinf Tryz.prog 127 = some ⟨.fn, false, 1, 8, .v .nilFunc⟩ := by kernel_rfl
@[go_sem] theorem Tryz.ty129 : tinf Tryz.prog 129 = some ⟨.fn, false, 1, 8, .v .nilFunc⟩ := by kernel_rfl
@[go_sem] theorem Tryz.ty130 : tinf Tryz.prog 130 = some ⟨.fn, false, 1, 8, .v .nilFunc⟩ := by kernel_rfl
@[go_sem] theorem Tryz.ty131 : tinf Tryz.prog 131 = some ⟨.arr 20 97, true, 20, 160, .agg [.v (.int .u64 0), .v (.int .u64 0), .v (.int .u64 0), .v (.int .u64 0), .v (.int .u64 0), .v (.int .u64 0), .v (.int .u64 0), .v (.int .u64 0), .v (.int .u64 0), .v (.int .u64 0), .v (.int .u64 0), .v (.int .u64 0), .v (.int .u64 0), .v (.int .u64 0), .v (.int .u64 0), .v (.int .u64 0), .v (.int .u64 0), .v (.int .u64 0), .v (.int .u64 0), .v (.int .u64 0)]⟩ := by kernel_rfl
@[go_sem] theorem Tryz.ty132 : tinf Tryz.prog 132 = some ⟨.int .u32, false, 1, 4, .v (.int .u32 0)⟩ := by kernel_rfl
@[go_sem] theorem Tryz.ty133 : tinf Tryz.prog 133 = some ⟨.arr 65 5, true, 65, 65, .agg [.v (.int .u8 0), .v (.int .u8 0), .v (.int .u8 0), .v (.int .u8 0), .v (.int .u8 0), .v (.int .u8 0), .v (.int .u8 0), .v (.int .u8 0), .v (.int .u8 0), .v (.int .u8 0), .v (.int .u8 0), .v (.int .u8 0), .v (.int .u8 0), .v (.int .u8 0), .v (.int .u8 0), .v (.int .u8 0), .v (.int .u8 0), .v (.int .u8 0), .v (.int .u8 0), .v (.int .u8 0), .v (.int .u8 0), .v (.int .u8 0), .v (.int .u8 0), .v (.int .u8 0), .v (.int .u8 0), .v (.int .u8 0), .v (.int .u8 0), .v (.int .u8 0), .v (.int .u8 0), .v (.int .u8 0), .v (.int .u8 0), .v (.int .u8 0), .v (.int .u8 0), .v (.int .u8 0), .v (.int .u8 0), .v (.int .u8 0), .v (.int .u8 0), .v (.int .u8 0), .v (.int .u8 0), .v (.int .u8 0), .v (.int .u8 0), .v (.int .u8 0), .v (.int .u8 0), .v (.int .u8 0), .v (.int .u8 0), .v (.int .u8 0), .v (.int .u8 0), .v (.int .u8 0), .v (.int .u8 0), .v (.int .u8 0), .v (.int .u8 0), .v (.int .u8 0), .v (.int .u8 0), .v (.int .u8 0), .v (.int .u8 0), .v (.int .u8 0), .v (.int .u8 0), .v (.int .u8 0), .v (.int .u8 0), .v (.int .u8 0), .v (.int .u8 0), .v (.int .u8 0), .v (.int .u8 0), .v (.int .u8 0), .v (.int .u8 0)]⟩ := by kernel_rfl
@[go_sem] theorem Tryz.ty134 : tinf Tryz.prog 134 = some ⟨.fn, false, 1, 8, .v .nilFunc⟩ := by kernel_rfl
@[go_sem] theorem Tryz.ty135 : tinf Tryz.prog 135 = some ⟨.int .u64, false, 1, 8, .v (.int .u64 0)⟩ := by kernel_rfl
@[go_sem] theorem Tryz.ty136 : tinf Tryz.prog 136 = some ⟨.fn, false, 1, 8, .v .nilFunc⟩ := by kernel_rfl
@[go_sem] theorem Tryz.ty137 : tinf Tryz.prog 137 = some ⟨.fn, false, 1, 8, .v .nilFunc⟩ := by kernel_rfl
@[go_sem] theorem Tryz.ty138 : tinf Tryz.prog 138 = some ⟨.fn, false, 1, 8, .v .nilFunc⟩ := by kernel_rfl
@[go_sem] theorem Tryz.ty140 : tinf Tryz.prog 140 = some ⟨.fn, false, 1, 8, .v .nilFunc⟩ := by kernel_rfl
@[go_sem] theorem Tryz.ty141 : tinf Tryz.prog 141 = some ⟨.fn, false, 1, 8, .v .nilFunc⟩ := by kernel_rfl
@[go_sem] theorem Tryz.ty142 : tinf Tryz.prog 142 = some ⟨.fn, false, 1, 8, .v .nilFunc⟩ := by kernel_rfl
@[go_sem] theorem Tryz.ty143 : tinf Tryz.prog 143 = some ⟨.fn, false, 1, 8, .v .nilFunc⟩ := by kernel_rfl
@[go_sem] theorem Tryz.ty144 : tinf Tryz.prog 144 = some ⟨.fn, false, 1, 8, .v .nilFunc⟩ := by kernel_rfl
@[go_sem] theorem Tryz.ty145 : tinf Tryz.prog 145 = some ⟨.int .i64, false, 1, 8, .v (.int .i64 0)⟩ := by kernel_rfl
@[go_sem] theorem Tryz.ty147 : tinf Tryz.prog 147 = some ⟨.fn, false, 1, 8, .v .nilFunc⟩ := by kernel_rfl
@[go_sem] theorem Tryz.ty148 : tinf Tryz.prog 148 = some ⟨.ptr 161, false, 1, 8, .v (.pointer none)⟩ := by kernel_rfl
@[go_sem] theorem Tryz.ty149 : tinf Tryz.prog 149 = some ⟨.fn, false, 1, 8, .v .nilFunc⟩ := by kernel_rfl
@[go_sem] theorem Tryz.ty150 : tinf Tryz.prog 150 = some ⟨.fn, false, 1, 8, .v .nilFunc⟩ := by kernel_rfl
@[go_sem] theorem Tryz.ty151 : tinf Tryz.prog 151 = some ⟨.arr 32 5, true, 32, 32, .agg [.v (.int .u8 0), .v (.int .u8 0), .v (.int .u8 0), .v (.int .u8 0), .v (.int .u8 0), .v (.int .u8 0), .v (.int .u8 0), .v (.int .u8 0), .v (.int .u8 0), .v (.int .u8 0), .v (.int .u8 0), .v (.int .u8 0), .v (.int .u8 0), .v (.int .u8 0), .v (.int .u8 0), .v (.int .u8 0), .v (.int .u8 0), .v (.int .u8 0), .v (.int .u8 0), .v (.int .u8 0), .v (.int .u8 0), .v (.int .u8 0), .v (.int .u8 0), .v (.int .u8 0), .v (.int .u8 0), .v (.int .u8 0), .v (.int .u8 0), .v (.int .u8 0), .v (.int .u8 0), .v (.int .u8 0), .v (.int .u8 0), .v (.int .u8 0)]⟩ := by kernel_rfl
@[go_sem] theorem Tryz.ty152 : tinf Tryz.prog 152 = some ⟨.arr 64 5, true, 64, 64, .agg [.v (.int .u8 0), .v (.int .u8 0), .v (.int .u8 0), .v (.int .u8 0), .v (.int .u8 0), .v (.int .u8 0), .v (.int .u8 0), .v (.int .u8 0), .v (.int .u8 0), .v (.int .u8 0), .v (.int .u8 0), .v (.int .u8 0), .v (.int .u8 0), .v (.int .u8 0), .v (.int .u8 0), .v (.int .u8 0), .v (.int .u8 0), .v (.int .u8 0), .v (.int .u8 0), .v (.int .u8 0), .v (.int .u8 0), .v (.int .u8 0), .v (.int .u8 0), .v (.int .u8 0), .v (.int .u8 0), .v (.int .u8 0), .v (.int .u8 0), .v (.int .u8 0), .v (.int .u8 0), .v (.int .u8 0), .v (.int .u8 0), .v (.int .u8 0), .v (.int .u8 0), .v (.int .u8 0), .v (.int .u8 0), .v (.int .u8 0), .v (.int .u8 0), .v (.int .u8 0), .v (.int .u8 0), .v (.int .u8 0), .v (.int .u8 0), .v (.int .u8 0), .v (.int .u8 0), .v (.int .u8 0), .v (.int .u8 0), .v (.int .u8 0), .v (.int .u8 0), .v (.int .u8 0), .v (.int .u8 0), .v (.int .u8 0), .v (.int .u8 0), .v (.int .u8 0), .v (.int .u8 0), .v (.int .u8 0), .v (.int .u8 0), .v (.int .u8 0), .v (.int .u8 0), .v (.int .u8 0), .v (.int .u8 0), .v (.int .u8 0), .v (.int .u8 0), .v (.int .u8 0), .v (.int .u8 0), .v (.int .u8 0)]⟩ := by kernel_rfl
@[go_sem] theorem Tryz.ty154 : tinf Tryz.prog 154 = some ⟨.st [(0, 5), (1, 5)], true, 2, 2, .agg [.v (.int .u8 0), .v (.int .u8 0)]⟩ := by kernel_rfl
@[go_sem] theorem Tryz.ty155 : tinf Tryz.prog 155 = some ⟨.st [(0, 5), (1, 5)], true, 2, 2, .agg [.v (.int .u8 0), .v (.int .u8 0)]⟩ := by kernel_rfl
@[go_sem] theorem Tryz.ty156 : tinf Tryz.prog 156 = some ⟨.arr 16 155, true, 32, 32, .agg [.v (.int .u8 0), .v (.int .u8 0), .v (.int .u8 0), .v (.int .u8 0), .v (.int .u8 0), .v (.int .u8 0), .v (.int .u8 0), .v (.int .u8 0), .v (.int .u8 0), .v (.int .u8 0), .v (.int .u8 0), .v (.int .u8 0), .v (.int .u8 0), .v (.int .u8 0), .v (.int .u8 0), .v (.int .u8 0), .v (.int .u8 0), .v (.int .u8 0), .v (.int .u8 0), .v (.int .u8 0), .v (.int .u8 0), .v (.int .u8 0), .v (.int .u8 0), .v (.int .u8 0), .v (.int .u8 0), .v (.int .u8 0), .v (.int .u8 0), .v (.int .u8 0), .v (.int .u8 0), .v (.int .u8 0), .v (.int .u8 0), .v (.int .u8 0)]⟩ := by kernel_rfl
@[go_sem] theorem Tryz.ty158 : tinf Tryz.prog 158 = some ⟨.fn, false, 1, 8, .v .nilFunc⟩ := by kernel_rfl
@[go_sem] theorem Tryz.ty159 : tinf Tryz.prog 159 = some ⟨.fn, false, 1, 8, .v .nilFunc⟩ := by kernel_rfl
@[go_sem] theorem Tryz.ty160 : tinf Tryz.prog 160 = some ⟨.st [(0, 9), (1, 9), (2, 57)], true, 3, 48, .agg [.v (.string ByteArray.empty), .v (.string ByteArray.empty), .v .nilIface]⟩ := by kernel_rfl
@[go_sem] theorem Tryz.ty161 : tinf Tryz.prog 161 = some ⟨.st [(0, 9), (1, 9), (2, 57)], true, 3, 48, .agg [.v (.string ByteArray.empty), .v (.string ByteArray.empty), .v .nilIface]⟩ := by kernel_rfl
@[go_sem] theorem Tryz.ty162 : tinf Tryz.prog 162 = some ⟨.fn, false, 1, 8, .v .nilFunc⟩ := by kernel_rfl
@[go_sem] theorem Tryz.ty163 : tinf Tryz.prog 163 = some ⟨.ptr 165, false, 1, 8, .v (.pointer none)⟩ := by kernel_rfl
@[go_sem] theorem Tryz.ty164 : tinf Tryz.prog 164 = some ⟨.st [(0, 9)], true, 1, 16, .agg [.v (.string ByteArray.empty)]⟩ := by kernel_rfl
@[go_sem] theorem Tryz.ty165 : tinf Tryz.prog 165 = some ⟨.st [(0, 9)], true, 1, 16, .agg [.v (.string ByteArray.empty)]⟩ := by kernel_rfl
@[go_sem] theorem Tryz.ty166 : tinf Tryz.prog 166 = some ⟨.st [(0, 17), (1, 17), (2, 17), (3, 9)], true, 4, 40, .agg [.v (.pointer none), .v (.pointer none), .v (.pointer none), .v (.string ByteArray.empty)]⟩ := by kernel_rfl
@[go_sem] theorem Tryz.ty167 : tinf Tryz.prog 167 = some ⟨.st [(0, 17), (1, 17), (2, 17), (3, 9)], true, 4, 40, .agg [.v (.pointer none), .v (.pointer none), .v (.pointer none), .v (.string ByteArray.empty)]⟩ := by kernel_rfl
@[go_sem] theorem Tryz.ty168 : tinf Tryz.prog 168 = some ⟨.arr 0 16, true, 0, 0, .agg []⟩ := by kernel_rfl
@[go_sem] theorem Tryz.ty169 : tinf Tryz.prog 169 = some ⟨.st [(0, 168)], true, 0, 0, .agg []⟩ := by kernel_rfl
@[go_sem] theorem Tryz.ty170 : tinf Tryz.prog 170 = some ⟨.st [(0, 168)], true, 0, 0, .agg []⟩ := by kernel_rfl
@[go_sem] theorem Tryz.ty171 : tinf Tryz.prog 171 = some ⟨.fn, false, 1, 8, .v .nilFunc⟩ := by kernel_rfl
@[go_sem] theorem Tryz.ty172 : tinf Tryz.prog 172 = some ⟨.int .u8, false, 1, 1, .v (.int .u8 0)⟩ := by kernel_rfl
@[go_sem] theorem Tryz.ty173 : tinf Tryz.prog 173 = some ⟨.int .u8, false, 1, 1, .v (.int .u8 0)⟩ := by kernel_rfl
@[go_sem] theorem Tryz.ty174 : tinf Tryz.prog 174 = some ⟨.fn, false, 1, 8, .v .nilFunc⟩ := by kernel_rfl
@[go_sem] theorem Tryz.ty175 : tinf Tryz.prog 175 = some ⟨.int .i32, false, 1, 4, .v (.int .i32 0)⟩ := by kernel_rfl
@[go_sem] theorem Tryz.ty176 : tinf Tryz.prog 176 = some ⟨.int .i32, false, 1, 4, .v (.int .i32 0)⟩ := by kernel_rfl
@[go_sem] theorem Tryz.ty177 : tinf Tryz.prog 177 = some ⟨.st [(0, 12), (1, 12), (2, 132), (3, 172), (4, 5), (5, 5), (6, 173), (7, 174), (8, 96), (9, 175), (10, 176)], true, 11, 48, .agg [.v (.int .u64 0), .v (.int .u64 0), .v (.int .u32 0), .v (.int .u8 0), .v (.int .u8 0), .v (.int .u8 0), .v (.int .u8 0), .v .nilFunc, .v (.pointer none), .v (.int .i32 0), .v (.int .i32 0)]⟩ := by kernel_rfl
@[go_sem] theorem Tryz.ty178 : tinf Tryz.prog 178 = some ⟨.st [(0, 12), (1, 12), (2, 132), (3, 172), (4, 5), (5, 5), (6, 173), (7, 174), (8, 96), (9, 175), (10, 176)], true, 11, 48, .agg [.v (.int .u64 0), .v (.int .u64 0), .v (.int .u32 0), .v (.int .u8 0), .v (.int .u8 0), .v (.int .u8 0), .v (.int .u8 0), .v .nilFunc, .v (.pointer none), .v (.int .i32 0), .v (.int .i32 0)]⟩ := by kernel_rfl
theorem Tryz.mixed : Tryz.prog.follows .mixedOrders = true := by kernel_rfl
end Go.Proofs.YtdlekkhjkcbbnaaGreatDoor
