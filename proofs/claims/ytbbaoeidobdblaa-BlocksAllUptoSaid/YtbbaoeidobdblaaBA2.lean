/- Laid together: Tys, Sxi, Sxh, Sp1, Sk4, Sk5, Sk6, Sk7, Sk8, Sk9, Sk10, Sk11, Sk14, Sk16, Sxj, Sxk. -/
import Derived.Test.YtbbaoeidobdblaaBA1
import Derived.Test.YtbbaoeidobdblaaProg
import Derived.KernelRfl
import Derived.Laws.MakeOwn
import Derived.Laws.OwnMore
import Derived.Lib.ConvBytes
import Derived.Laws.BytesString
import Derived.Lib.AppendZeros
import Derived.Laws.StructEq
/- What is asked of the types of this program (written by tys.py). -/
set_option linter.unusedVariables false
namespace Go.Proofs.Ytbbaoeidobdblaa.Sx
open Go
theorem k1 : TIok Try.prog 1 ⟨0, 1, 8, [.nilFunc], [], 0, 0⟩ := ⟨by kernel_rfl, by kernel_rfl, by kernel_rfl⟩
theorem k2 : TIok Try.prog 2 ⟨8, 1, 8, [.int .i64 0], [], 3, 0⟩ := ⟨by kernel_rfl, by kernel_rfl, by kernel_rfl⟩
theorem k3 : TIok Try.prog 3 ⟨8, 1, 8, [.int .i64 0], [], 3, 0⟩ := ⟨by kernel_rfl, by kernel_rfl, by kernel_rfl⟩
theorem k4 : TIok Try.prog 4 ⟨7, 1, 1, [.bool false], [], 0, 0⟩ := ⟨by kernel_rfl, by kernel_rfl, by kernel_rfl⟩
theorem k5 : TIok Try.prog 5 ⟨8, 1, 1, [.int .u8 0], [], 4, 0⟩ := ⟨by kernel_rfl, by kernel_rfl, by kernel_rfl⟩
theorem k6 : TIok Try.prog 6 ⟨8, 1, 1, [.int .u8 0], [], 4, 0⟩ := ⟨by kernel_rfl, by kernel_rfl, by kernel_rfl⟩
theorem k7 : TIok Try.prog 7 ⟨1, 4, 24, [.int .i64 0, .int .i64 0, .bool false, .int .u8 0], [(0, 1, false), (1, 1, false), (2, 1, false), (3, 1, false)], 0, 0⟩ := ⟨by kernel_rfl, by kernel_rfl, by kernel_rfl⟩
theorem k8 : TIok Try.prog 8 ⟨1, 4, 24, [.int .i64 0, .int .i64 0, .bool false, .int .u8 0], [(0, 1, false), (1, 1, false), (2, 1, false), (3, 1, false)], 0, 0⟩ := ⟨by kernel_rfl, by kernel_rfl, by kernel_rfl⟩
theorem k9 : TIok Try.prog 9 ⟨4, 1, 16, [.string ⟨#[]⟩], [], 0, 0⟩ := ⟨by kernel_rfl, by kernel_rfl, by kernel_rfl⟩
theorem k10 : TIok Try.prog 10 ⟨4, 1, 16, [.string ⟨#[]⟩], [], 0, 0⟩ := ⟨by kernel_rfl, by kernel_rfl, by kernel_rfl⟩
theorem k11 : TIok Try.prog 11 ⟨4, 1, 16, [.string ⟨#[]⟩], [], 0, 0⟩ := ⟨by kernel_rfl, by kernel_rfl, by kernel_rfl⟩
theorem k12 : TIok Try.prog 12 ⟨8, 1, 8, [.int .u64 0], [], 7, 0⟩ := ⟨by kernel_rfl, by kernel_rfl, by kernel_rfl⟩
theorem k13 : TIok Try.prog 13 ⟨1, 2, 24, [.string ⟨#[]⟩, .int .u64 0], [(0, 1, false), (1, 1, false)], 0, 0⟩ := ⟨by kernel_rfl, by kernel_rfl, by kernel_rfl⟩
theorem k14 : TIok Try.prog 14 ⟨1, 2, 24, [.string ⟨#[]⟩, .int .u64 0], [(0, 1, false), (1, 1, false)], 0, 0⟩ := ⟨by kernel_rfl, by kernel_rfl, by kernel_rfl⟩
theorem k15 : TIok Try.prog 15 ⟨6, 1, 8, [.pointer none], [], 229, 0⟩ := ⟨by kernel_rfl, by kernel_rfl, by kernel_rfl⟩
theorem k16 : TIok Try.prog 16 ⟨6, 1, 8, [.pointer none], [], 232, 0⟩ := ⟨by kernel_rfl, by kernel_rfl, by kernel_rfl⟩
theorem k17 : TIok Try.prog 17 ⟨6, 1, 8, [.pointer none], [], 240, 0⟩ := ⟨by kernel_rfl, by kernel_rfl, by kernel_rfl⟩
theorem k18 : TIok Try.prog 18 ⟨1, 1, 8, [.pointer none], [(0, 1, false)], 0, 0⟩ := ⟨by kernel_rfl, by kernel_rfl, by kernel_rfl⟩
theorem k19 : TIok Try.prog 19 ⟨1, 1, 8, [.pointer none], [(0, 1, false)], 0, 0⟩ := ⟨by kernel_rfl, by kernel_rfl, by kernel_rfl⟩
theorem k21 : TIok Try.prog 21 ⟨8, 1, 4, [.int .i32 0], [], 2, 0⟩ := ⟨by kernel_rfl, by kernel_rfl, by kernel_rfl⟩
theorem k22 : TIok Try.prog 22 ⟨1, 5, 40, [.int .i64 0, .int .i64 0, .int .i64 0, .int .i64 0, .int .i64 0], [(0, 1, false), (1, 1, false), (2, 1, false), (3, 1, false), (4, 1, false)], 0, 0⟩ := ⟨by kernel_rfl, by kernel_rfl, by kernel_rfl⟩
theorem k23 : TIok Try.prog 23 ⟨1, 5, 40, [.int .i64 0, .int .i64 0, .int .i64 0, .int .i64 0, .int .i64 0], [(0, 1, false), (1, 1, false), (2, 1, false), (3, 1, false), (4, 1, false)], 0, 0⟩ := ⟨by kernel_rfl, by kernel_rfl, by kernel_rfl⟩
theorem k24 : TIok Try.prog 24 ⟨0, 1, 8, [.nilFunc], [], 0, 0⟩ := ⟨by kernel_rfl, by kernel_rfl, by kernel_rfl⟩
theorem k25 : TIok Try.prog 25 ⟨8, 1, 8, [.int .u64 0], [], 7, 0⟩ := ⟨by kernel_rfl, by kernel_rfl, by kernel_rfl⟩
theorem k26 : TIok Try.prog 26 ⟨6, 1, 8, [.pointer none], [], 79, 0⟩ := ⟨by kernel_rfl, by kernel_rfl, by kernel_rfl⟩
theorem k27 : TIok Try.prog 27 ⟨8, 1, 8, [.int .i64 0], [], 3, 0⟩ := ⟨by kernel_rfl, by kernel_rfl, by kernel_rfl⟩
theorem k29 : TIok Try.prog 29 ⟨0, 1, 8, [.nilFunc], [], 0, 0⟩ := ⟨by kernel_rfl, by kernel_rfl, by kernel_rfl⟩
theorem k30 : TIok Try.prog 30 ⟨6, 1, 8, [.pointer none], [], 82, 0⟩ := ⟨by kernel_rfl, by kernel_rfl, by kernel_rfl⟩
theorem k31 : TIok Try.prog 31 ⟨0, 1, 8, [.nilFunc], [], 0, 0⟩ := ⟨by kernel_rfl, by kernel_rfl, by kernel_rfl⟩
theorem k32 : TIok Try.prog 32 ⟨6, 1, 8, [.pointer none], [], 85, 0⟩ := ⟨by kernel_rfl, by kernel_rfl, by kernel_rfl⟩
theorem k34 : TIok Try.prog 34 ⟨0, 1, 8, [.nilFunc], [], 0, 0⟩ := ⟨by kernel_rfl, by kernel_rfl, by kernel_rfl⟩
theorem k35 : TIok Try.prog 35 ⟨0, 1, 8, [.nilFunc], [], 0, 0⟩ := ⟨by kernel_rfl, by kernel_rfl, by kernel_rfl⟩
theorem k36 : TIok Try.prog 36 ⟨3, 1, 24, [.slice none 0 0], [], 172, 0⟩ := ⟨by kernel_rfl, by kernel_rfl, by kernel_rfl⟩
theorem k37 : TIok Try.prog 37 ⟨3, 1, 24, [.slice none 0 0], [], 102, 0⟩ := ⟨by kernel_rfl, by kernel_rfl, by kernel_rfl⟩
theorem k38 : TIok Try.prog 38 ⟨1, 7, 96, [.int .i64 0, .int .i64 0, .int .i64 0, .int .i64 0, .string ⟨#[]⟩, .slice none 0 0, .slice none 0 0], [(0, 1, false), (1, 1, false), (2, 1, false), (3, 1, false), (4, 1, false), (5, 1, false), (6, 1, false)], 0, 0⟩ := ⟨by kernel_rfl, by kernel_rfl, by kernel_rfl⟩
theorem k39 : TIok Try.prog 39 ⟨1, 7, 96, [.int .i64 0, .int .i64 0, .int .i64 0, .int .i64 0, .string ⟨#[]⟩, .slice none 0 0, .slice none 0 0], [(0, 1, false), (1, 1, false), (2, 1, false), (3, 1, false), (4, 1, false), (5, 1, false), (6, 1, false)], 0, 0⟩ := ⟨by kernel_rfl, by kernel_rfl, by kernel_rfl⟩
theorem k40 : TIok Try.prog 40 ⟨1, 9, 112, [.int .i64 0, .int .i64 0, .int .i64 0, .int .i64 0, .int .i64 0, .int .i64 0, .string ⟨#[]⟩, .slice none 0 0, .slice none 0 0], [(0, 1, false), (1, 1, false), (2, 7, true)], 0, 0⟩ := ⟨by kernel_rfl, by kernel_rfl, by kernel_rfl⟩
theorem k41 : TIok Try.prog 41 ⟨1, 9, 112, [.int .i64 0, .int .i64 0, .int .i64 0, .int .i64 0, .int .i64 0, .int .i64 0, .string ⟨#[]⟩, .slice none 0 0, .slice none 0 0], [(0, 1, false), (1, 1, false), (2, 7, true)], 0, 0⟩ := ⟨by kernel_rfl, by kernel_rfl, by kernel_rfl⟩
theorem k42 : TIok Try.prog 42 ⟨3, 1, 24, [.slice none 0 0], [], 41, 0⟩ := ⟨by kernel_rfl, by kernel_rfl, by kernel_rfl⟩
theorem k43 : TIok Try.prog 43 ⟨0, 1, 8, [.nilFunc], [], 0, 0⟩ := ⟨by kernel_rfl, by kernel_rfl, by kernel_rfl⟩
theorem k44 : TIok Try.prog 44 ⟨3, 1, 24, [.slice none 0 0], [], 39, 0⟩ := ⟨by kernel_rfl, by kernel_rfl, by kernel_rfl⟩
theorem k45 : TIok Try.prog 45 ⟨3, 1, 24, [.slice none 0 0], [], 3, 0⟩ := ⟨by kernel_rfl, by kernel_rfl, by kernel_rfl⟩
theorem k46 : TIok Try.prog 46 ⟨1, 3, 56, [.int .i64 0, .slice none 0 0, .slice none 0 0], [(0, 1, false), (1, 1, false), (2, 1, false)], 0, 0⟩ := ⟨by kernel_rfl, by kernel_rfl, by kernel_rfl⟩
theorem k47 : TIok Try.prog 47 ⟨1, 3, 56, [.int .i64 0, .slice none 0 0, .slice none 0 0], [(0, 1, false), (1, 1, false), (2, 1, false)], 0, 0⟩ := ⟨by kernel_rfl, by kernel_rfl, by kernel_rfl⟩
theorem k48 : TIok Try.prog 48 ⟨0, 1, 8, [.nilFunc], [], 0, 0⟩ := ⟨by kernel_rfl, by kernel_rfl, by kernel_rfl⟩
theorem k49 : TIok Try.prog 49 ⟨0, 1, 8, [.nilFunc], [], 0, 0⟩ := ⟨by kernel_rfl, by kernel_rfl, by kernel_rfl⟩
theorem k50 : TIok Try.prog 50 ⟨0, 1, 8, [.nilFunc], [], 0, 0⟩ := ⟨by kernel_rfl, by kernel_rfl, by kernel_rfl⟩
theorem k51 : TIok Try.prog 51 ⟨3, 1, 24, [.slice none 0 0], [], 100, 0⟩ := ⟨by kernel_rfl, by kernel_rfl, by kernel_rfl⟩
theorem k52 : TIok Try.prog 52 ⟨0, 1, 8, [.nilFunc], [], 0, 0⟩ := ⟨by kernel_rfl, by kernel_rfl, by kernel_rfl⟩
theorem k53 : TIok Try.prog 53 ⟨0, 1, 8, [.nilFunc], [], 0, 0⟩ := ⟨by kernel_rfl, by kernel_rfl, by kernel_rfl⟩
theorem k54 : TIok Try.prog 54 ⟨0, 1, 8, [.nilFunc], [], 0, 0⟩ := ⟨by kernel_rfl, by kernel_rfl, by kernel_rfl⟩
theorem k55 : TIok Try.prog 55 ⟨0, 1, 8, [.nilFunc], [], 0, 0⟩ := ⟨by kernel_rfl, by kernel_rfl, by kernel_rfl⟩
theorem k56 : TIok Try.prog 56 ⟨8, 1, 4, [.int .u32 0], [], 6, 0⟩ := ⟨by kernel_rfl, by kernel_rfl, by kernel_rfl⟩
theorem k57 : TIok Try.prog 57 ⟨1, 3, 24, [.int .i64 0, .int .i64 0, .int .u32 0], [(0, 1, false), (1, 1, false), (2, 1, false)], 0, 0⟩ := ⟨by kernel_rfl, by kernel_rfl, by kernel_rfl⟩
theorem k58 : TIok Try.prog 58 ⟨1, 3, 24, [.int .i64 0, .int .i64 0, .int .u32 0], [(0, 1, false), (1, 1, false), (2, 1, false)], 0, 0⟩ := ⟨by kernel_rfl, by kernel_rfl, by kernel_rfl⟩
theorem k59 : TIok Try.prog 59 ⟨3, 1, 24, [.slice none 0 0], [], 58, 0⟩ := ⟨by kernel_rfl, by kernel_rfl, by kernel_rfl⟩
theorem k60 : TIok Try.prog 60 ⟨0, 1, 8, [.nilFunc], [], 0, 0⟩ := ⟨by kernel_rfl, by kernel_rfl, by kernel_rfl⟩
theorem k61 : TIok Try.prog 61 ⟨0, 1, 8, [.nilFunc], [], 0, 0⟩ := ⟨by kernel_rfl, by kernel_rfl, by kernel_rfl⟩
theorem k62 : TIok Try.prog 62 ⟨1, 4, 32, [.int .i64 0, .int .i64 0, .int .i64 0, .bool false], [(0, 1, false), (1, 1, false), (2, 1, false), (3, 1, false)], 0, 0⟩ := ⟨by kernel_rfl, by kernel_rfl, by kernel_rfl⟩
theorem k63 : TIok Try.prog 63 ⟨1, 4, 32, [.int .i64 0, .int .i64 0, .int .i64 0, .bool false], [(0, 1, false), (1, 1, false), (2, 1, false), (3, 1, false)], 0, 0⟩ := ⟨by kernel_rfl, by kernel_rfl, by kernel_rfl⟩
theorem k64 : TIok Try.prog 64 ⟨3, 1, 24, [.slice none 0 0], [], 63, 0⟩ := ⟨by kernel_rfl, by kernel_rfl, by kernel_rfl⟩
theorem k65 : TIok Try.prog 65 ⟨0, 1, 8, [.nilFunc], [], 0, 0⟩ := ⟨by kernel_rfl, by kernel_rfl, by kernel_rfl⟩
theorem k66 : TIok Try.prog 66 ⟨0, 1, 8, [.nilFunc], [], 0, 0⟩ := ⟨by kernel_rfl, by kernel_rfl, by kernel_rfl⟩
theorem k67 : TIok Try.prog 67 ⟨0, 1, 8, [.nilFunc], [], 0, 0⟩ := ⟨by kernel_rfl, by kernel_rfl, by kernel_rfl⟩
theorem k69 : TIok Try.prog 69 ⟨0, 1, 8, [.nilFunc], [], 0, 0⟩ := ⟨by kernel_rfl, by kernel_rfl, by kernel_rfl⟩
theorem k71 : TIok Try.prog 71 ⟨0, 1, 8, [.nilFunc], [], 0, 0⟩ := ⟨by kernel_rfl, by kernel_rfl, by kernel_rfl⟩
theorem k72 : TIok Try.prog 72 ⟨0, 1, 8, [.nilFunc], [], 0, 0⟩ := ⟨by kernel_rfl, by kernel_rfl, by kernel_rfl⟩
theorem k73 : TIok Try.prog 73 ⟨0, 1, 8, [.nilFunc], [], 0, 0⟩ := ⟨by kernel_rfl, by kernel_rfl, by kernel_rfl⟩
theorem k74 : TIok Try.prog 74 ⟨0, 1, 8, [.nilFunc], [], 0, 0⟩ := ⟨by kernel_rfl, by kernel_rfl, by kernel_rfl⟩
theorem k75 : TIok Try.prog 75 ⟨3, 1, 24, [.slice none 0 0], [], 5, 0⟩ := ⟨by kernel_rfl, by kernel_rfl, by kernel_rfl⟩
theorem k76 : TIok Try.prog 76 ⟨0, 1, 8, [.nilFunc], [], 0, 0⟩ := ⟨by kernel_rfl, by kernel_rfl, by kernel_rfl⟩
theorem k77 : TIok Try.prog 77 ⟨5, 1, 8, [.map none], [], 0, 0⟩ := ⟨by kernel_rfl, by kernel_rfl, by kernel_rfl⟩
theorem k78 : TIok Try.prog 78 ⟨1, 8, 80, [.int .i64 0, .int .i64 0, .int .i64 0, .int .i64 0, .int .i64 0, .pointer none, .slice none 0 0, .map none], [(0, 5, true), (5, 1, false), (6, 1, false), (7, 1, false)], 0, 0⟩ := ⟨by kernel_rfl, by kernel_rfl, by kernel_rfl⟩
theorem k79 : TIok Try.prog 79 ⟨1, 8, 80, [.int .i64 0, .int .i64 0, .int .i64 0, .int .i64 0, .int .i64 0, .pointer none, .slice none 0 0, .map none], [(0, 5, true), (5, 1, false), (6, 1, false), (7, 1, false)], 0, 0⟩ := ⟨by kernel_rfl, by kernel_rfl, by kernel_rfl⟩
theorem k80 : TIok Try.prog 80 ⟨5, 1, 8, [.map none], [], 0, 0⟩ := ⟨by kernel_rfl, by kernel_rfl, by kernel_rfl⟩
theorem k81 : TIok Try.prog 81 ⟨1, 5, 32, [.int .i64 0, .int .u8 0, .bool false, .map none, .int .i64 0], [(0, 1, false), (1, 1, false), (2, 1, false), (3, 1, false), (4, 1, false)], 0, 0⟩ := ⟨by kernel_rfl, by kernel_rfl, by kernel_rfl⟩
theorem k82 : TIok Try.prog 82 ⟨1, 5, 32, [.int .i64 0, .int .u8 0, .bool false, .map none, .int .i64 0], [(0, 1, false), (1, 1, false), (2, 1, false), (3, 1, false), (4, 1, false)], 0, 0⟩ := ⟨by kernel_rfl, by kernel_rfl, by kernel_rfl⟩
theorem k83 : TIok Try.prog 83 ⟨0, 1, 8, [.nilFunc], [], 0, 0⟩ := ⟨by kernel_rfl, by kernel_rfl, by kernel_rfl⟩
theorem k84 : TIok Try.prog 84 ⟨1, 8, 96, [.pointer none, .int .i64 0, .int .i64 0, .int .i64 0, .int .i64 0, .slice none 0 0, .slice none 0 0, .bool false], [(0, 1, false), (1, 1, false), (2, 1, false), (3, 1, false), (4, 3, true), (7, 1, false)], 0, 0⟩ := ⟨by kernel_rfl, by kernel_rfl, by kernel_rfl⟩
theorem k85 : TIok Try.prog 85 ⟨1, 8, 96, [.pointer none, .int .i64 0, .int .i64 0, .int .i64 0, .int .i64 0, .slice none 0 0, .slice none 0 0, .bool false], [(0, 1, false), (1, 1, false), (2, 1, false), (3, 1, false), (4, 3, true), (7, 1, false)], 0, 0⟩ := ⟨by kernel_rfl, by kernel_rfl, by kernel_rfl⟩
theorem k86 : TIok Try.prog 86 ⟨0, 1, 8, [.nilFunc], [], 0, 0⟩ := ⟨by kernel_rfl, by kernel_rfl, by kernel_rfl⟩
theorem k87 : TIok Try.prog 87 ⟨0, 1, 8, [.nilFunc], [], 0, 0⟩ := ⟨by kernel_rfl, by kernel_rfl, by kernel_rfl⟩
theorem k88 : TIok Try.prog 88 ⟨0, 1, 8, [.nilFunc], [], 0, 0⟩ := ⟨by kernel_rfl, by kernel_rfl, by kernel_rfl⟩
theorem k89 : TIok Try.prog 89 ⟨1, 3, 24, [.int .i64 0, .int .i64 0, .int .i64 0], [(0, 1, false), (1, 1, false), (2, 1, false)], 0, 0⟩ := ⟨by kernel_rfl, by kernel_rfl, by kernel_rfl⟩
theorem k90 : TIok Try.prog 90 ⟨1, 3, 24, [.int .i64 0, .int .i64 0, .int .i64 0], [(0, 1, false), (1, 1, false), (2, 1, false)], 0, 0⟩ := ⟨by kernel_rfl, by kernel_rfl, by kernel_rfl⟩
theorem k91 : TIok Try.prog 91 ⟨0, 1, 8, [.nilFunc], [], 0, 0⟩ := ⟨by kernel_rfl, by kernel_rfl, by kernel_rfl⟩
theorem k92 : TIok Try.prog 92 ⟨0, 1, 8, [.nilFunc], [], 0, 0⟩ := ⟨by kernel_rfl, by kernel_rfl, by kernel_rfl⟩
theorem k93 : TIok Try.prog 93 ⟨0, 1, 8, [.nilFunc], [], 0, 0⟩ := ⟨by kernel_rfl, by kernel_rfl, by kernel_rfl⟩
theorem k94 : TIok Try.prog 94 ⟨0, 1, 8, [.nilFunc], [], 0, 0⟩ := ⟨by kernel_rfl, by kernel_rfl, by kernel_rfl⟩
theorem k95 : TIok Try.prog 95 ⟨0, 1, 8, [.nilFunc], [], 0, 0⟩ := ⟨by kernel_rfl, by kernel_rfl, by kernel_rfl⟩
theorem k96 : TIok Try.prog 96 ⟨0, 1, 8, [.nilFunc], [], 0, 0⟩ := ⟨by kernel_rfl, by kernel_rfl, by kernel_rfl⟩
theorem k97 : TIok Try.prog 97 ⟨0, 1, 8, [.nilFunc], [], 0, 0⟩ := ⟨by kernel_rfl, by kernel_rfl, by kernel_rfl⟩
theorem k98 : TIok Try.prog 98 ⟨0, 1, 8, [.nilFunc], [], 0, 0⟩ := ⟨by kernel_rfl, by kernel_rfl, by kernel_rfl⟩
theorem k99 : TIok Try.prog 99 ⟨1, 4, 48, [.int .i64 0, .string ⟨#[]⟩, .string ⟨#[]⟩, .int .i64 0], [(0, 1, false), (1, 1, false), (2, 1, false), (3, 1, false)], 0, 0⟩ := ⟨by kernel_rfl, by kernel_rfl, by kernel_rfl⟩
theorem k100 : TIok Try.prog 100 ⟨1, 4, 48, [.int .i64 0, .string ⟨#[]⟩, .string ⟨#[]⟩, .int .i64 0], [(0, 1, false), (1, 1, false), (2, 1, false), (3, 1, false)], 0, 0⟩ := ⟨by kernel_rfl, by kernel_rfl, by kernel_rfl⟩
theorem k101 : TIok Try.prog 101 ⟨1, 3, 24, [.int .i64 0, .int .i64 0, .int .i64 0], [(0, 1, false), (1, 1, false), (2, 1, false)], 0, 0⟩ := ⟨by kernel_rfl, by kernel_rfl, by kernel_rfl⟩
theorem k102 : TIok Try.prog 102 ⟨1, 3, 24, [.int .i64 0, .int .i64 0, .int .i64 0], [(0, 1, false), (1, 1, false), (2, 1, false)], 0, 0⟩ := ⟨by kernel_rfl, by kernel_rfl, by kernel_rfl⟩
theorem k103 : TIok Try.prog 103 ⟨0, 1, 8, [.nilFunc], [], 0, 0⟩ := ⟨by kernel_rfl, by kernel_rfl, by kernel_rfl⟩
theorem k105 : TIok Try.prog 105 ⟨0, 1, 8, [.nilFunc], [], 0, 0⟩ := ⟨by kernel_rfl, by kernel_rfl, by kernel_rfl⟩
theorem k106 : TIok Try.prog 106 ⟨0, 1, 8, [.nilFunc], [], 0, 0⟩ := ⟨by kernel_rfl, by kernel_rfl, by kernel_rfl⟩
theorem k107 : TIok Try.prog 107 ⟨0, 1, 8, [.nilFunc], [], 0, 0⟩ := ⟨by kernel_rfl, by kernel_rfl, by kernel_rfl⟩
theorem k108 : TIok Try.prog 108 ⟨0, 1, 8, [.nilFunc], [], 0, 0⟩ := ⟨by kernel_rfl, by kernel_rfl, by kernel_rfl⟩
theorem k109 : TIok Try.prog 109 ⟨5, 1, 8, [.map none], [], 0, 0⟩ := ⟨by kernel_rfl, by kernel_rfl, by kernel_rfl⟩
theorem k110 : TIok Try.prog 110 ⟨0, 1, 8, [.nilFunc], [], 0, 0⟩ := ⟨by kernel_rfl, by kernel_rfl, by kernel_rfl⟩
theorem k111 : TIok Try.prog 111 ⟨0, 1, 8, [.nilFunc], [], 0, 0⟩ := ⟨by kernel_rfl, by kernel_rfl, by kernel_rfl⟩
theorem k112 : TIok Try.prog 112 ⟨1, 1, 8, [.int .i64 0], [(0, 1, false)], 0, 0⟩ := ⟨by kernel_rfl, by kernel_rfl, by kernel_rfl⟩
theorem k113 : TIok Try.prog 113 ⟨1, 1, 8, [.int .i64 0], [(0, 1, false)], 0, 0⟩ := ⟨by kernel_rfl, by kernel_rfl, by kernel_rfl⟩
theorem k114 : TIok Try.prog 114 ⟨0, 1, 8, [.nilFunc], [], 0, 0⟩ := ⟨by kernel_rfl, by kernel_rfl, by kernel_rfl⟩
theorem k116 : TIok Try.prog 116 ⟨0, 1, 8, [.nilFunc], [], 0, 0⟩ := ⟨by kernel_rfl, by kernel_rfl, by kernel_rfl⟩
theorem k117 : TIok Try.prog 117 ⟨0, 1, 8, [.nilFunc], [], 0, 0⟩ := ⟨by kernel_rfl, by kernel_rfl, by kernel_rfl⟩
theorem k118 : TIok Try.prog 118 ⟨0, 1, 8, [.nilFunc], [], 0, 0⟩ := ⟨by kernel_rfl, by kernel_rfl, by kernel_rfl⟩
theorem k119 : TIok Try.prog 119 ⟨0, 1, 8, [.nilFunc], [], 0, 0⟩ := ⟨by kernel_rfl, by kernel_rfl, by kernel_rfl⟩
theorem k120 : TIok Try.prog 120 ⟨0, 1, 8, [.nilFunc], [], 0, 0⟩ := ⟨by kernel_rfl, by kernel_rfl, by kernel_rfl⟩
theorem k121 : TIok Try.prog 121 ⟨0, 1, 8, [.nilFunc], [], 0, 0⟩ := ⟨by kernel_rfl, by kernel_rfl, by kernel_rfl⟩
theorem k123 : TIok Try.prog 123 ⟨0, 1, 8, [.nilFunc], [], 0, 0⟩ := ⟨by kernel_rfl, by kernel_rfl, by kernel_rfl⟩
theorem k124 : TIok Try.prog 124 ⟨0, 1, 8, [.nilFunc], [], 0, 0⟩ := ⟨by kernel_rfl, by kernel_rfl, by kernel_rfl⟩
theorem k125 : TIok Try.prog 125 ⟨0, 1, 8, [.nilFunc], [], 0, 0⟩ := ⟨by kernel_rfl, by kernel_rfl, by kernel_rfl⟩
theorem k126 : TIok Try.prog 126 ⟨0, 1, 8, [.nilFunc], [], 0, 0⟩ := ⟨by kernel_rfl, by kernel_rfl, by kernel_rfl⟩
theorem k128 : TIok Try.prog 128 ⟨0, 1, 8, [.nilFunc], [], 0, 0⟩ := ⟨by kernel_rfl, by kernel_rfl, by kernel_rfl⟩
theorem k129 : TIok Try.prog 129 ⟨0, 1, 8, [.nilFunc], [], 0, 0⟩ := ⟨by kernel_rfl, by kernel_rfl, by kernel_rfl⟩
theorem k130 : TIok Try.prog 130 ⟨0, 1, 8, [.nilFunc], [], 0, 0⟩ := ⟨by kernel_rfl, by kernel_rfl, by kernel_rfl⟩
theorem k131 : TIok Try.prog 131 ⟨0, 1, 8, [.nilFunc], [], 0, 0⟩ := ⟨by kernel_rfl, by kernel_rfl, by kernel_rfl⟩
theorem k132 : TIok Try.prog 132 ⟨8, 1, 8, [.int .u64 0], [], 7, 0⟩ := ⟨by kernel_rfl, by kernel_rfl, by kernel_rfl⟩
theorem k133 : TIok Try.prog 133 ⟨0, 1, 8, [.nilFunc], [], 0, 0⟩ := ⟨by kernel_rfl, by kernel_rfl, by kernel_rfl⟩
theorem k134 : TIok Try.prog 134 ⟨0, 1, 8, [.nilFunc], [], 0, 0⟩ := ⟨by kernel_rfl, by kernel_rfl, by kernel_rfl⟩
theorem k135 : TIok Try.prog 135 ⟨0, 1, 8, [.nilFunc], [], 0, 0⟩ := ⟨by kernel_rfl, by kernel_rfl, by kernel_rfl⟩
theorem k136 : TIok Try.prog 136 ⟨0, 1, 8, [.nilFunc], [], 0, 0⟩ := ⟨by kernel_rfl, by kernel_rfl, by kernel_rfl⟩
theorem k137 : TIok Try.prog 137 ⟨0, 1, 8, [.nilFunc], [], 0, 0⟩ := ⟨by kernel_rfl, by kernel_rfl, by kernel_rfl⟩
theorem k138 : TIok Try.prog 138 ⟨0, 1, 8, [.nilFunc], [], 0, 0⟩ := ⟨by kernel_rfl, by kernel_rfl, by kernel_rfl⟩
theorem k139 : TIok Try.prog 139 ⟨0, 1, 8, [.nilFunc], [], 0, 0⟩ := ⟨by kernel_rfl, by kernel_rfl, by kernel_rfl⟩
theorem k140 : TIok Try.prog 140 ⟨0, 1, 8, [.nilFunc], [], 0, 0⟩ := ⟨by kernel_rfl, by kernel_rfl, by kernel_rfl⟩
theorem k142 : TIok Try.prog 142 ⟨0, 1, 8, [.nilFunc], [], 0, 0⟩ := ⟨by kernel_rfl, by kernel_rfl, by kernel_rfl⟩
theorem k144 : TIok Try.prog 144 ⟨0, 1, 8, [.nilFunc], [], 0, 0⟩ := ⟨by kernel_rfl, by kernel_rfl, by kernel_rfl⟩
theorem k145 : TIok Try.prog 145 ⟨0, 1, 8, [.nilFunc], [], 0, 0⟩ := ⟨by kernel_rfl, by kernel_rfl, by kernel_rfl⟩
theorem k146 : TIok Try.prog 146 ⟨0, 1, 8, [.nilFunc], [], 0, 0⟩ := ⟨by kernel_rfl, by kernel_rfl, by kernel_rfl⟩
theorem k147 : TIok Try.prog 147 ⟨0, 1, 8, [.nilFunc], [], 0, 0⟩ := ⟨by kernel_rfl, by kernel_rfl, by kernel_rfl⟩
theorem k148 : TIok Try.prog 148 ⟨3, 1, 24, [.slice none 0 0], [], 9, 0⟩ := ⟨by kernel_rfl, by kernel_rfl, by kernel_rfl⟩
theorem k150 : TIok Try.prog 150 ⟨0, 1, 8, [.nilFunc], [], 0, 0⟩ := ⟨by kernel_rfl, by kernel_rfl, by kernel_rfl⟩
theorem k151 : TIok Try.prog 151 ⟨0, 1, 8, [.nilFunc], [], 0, 0⟩ := ⟨by kernel_rfl, by kernel_rfl, by kernel_rfl⟩
theorem k152 : TIok Try.prog 152 ⟨0, 1, 8, [.nilFunc], [], 0, 0⟩ := ⟨by kernel_rfl, by kernel_rfl, by kernel_rfl⟩
theorem k153 : TIok Try.prog 153 ⟨0, 1, 8, [.nilFunc], [], 0, 0⟩ := ⟨by kernel_rfl, by kernel_rfl, by kernel_rfl⟩
theorem k154 : TIok Try.prog 154 ⟨0, 1, 8, [.nilFunc], [], 0, 0⟩ := ⟨by kernel_rfl, by kernel_rfl, by kernel_rfl⟩
theorem k155 : TIok Try.prog 155 ⟨0, 1, 8, [.nilFunc], [], 0, 0⟩ := ⟨by kernel_rfl, by kernel_rfl, by kernel_rfl⟩
theorem k157 : TIok Try.prog 157 ⟨0, 1, 8, [.nilFunc], [], 0, 0⟩ := ⟨by kernel_rfl, by kernel_rfl, by kernel_rfl⟩
theorem k159 : TIok Try.prog 159 ⟨0, 1, 8, [.nilFunc], [], 0, 0⟩ := ⟨by kernel_rfl, by kernel_rfl, by kernel_rfl⟩
theorem k161 : TIok Try.prog 161 ⟨0, 1, 8, [.nilFunc], [], 0, 0⟩ := ⟨by kernel_rfl, by kernel_rfl, by kernel_rfl⟩
theorem k162 : TIok Try.prog 162 ⟨0, 1, 8, [.nilFunc], [], 0, 0⟩ := ⟨by kernel_rfl, by kernel_rfl, by kernel_rfl⟩
theorem k163 : TIok Try.prog 163 ⟨2, 1, 8, [.int .i64 0], [], 3, 1⟩ := ⟨by kernel_rfl, by kernel_rfl, by kernel_rfl⟩
theorem k164 : TIok Try.prog 164 ⟨0, 1, 8, [.nilFunc], [], 0, 0⟩ := ⟨by kernel_rfl, by kernel_rfl, by kernel_rfl⟩
theorem k165 : TIok Try.prog 165 ⟨2, 4, 32, [.int .i64 0, .int .i64 0, .int .i64 0, .int .i64 0], [], 3, 4⟩ := ⟨by kernel_rfl, by kernel_rfl, by kernel_rfl⟩
theorem k166 : TIok Try.prog 166 ⟨0, 1, 8, [.nilFunc], [], 0, 0⟩ := ⟨by kernel_rfl, by kernel_rfl, by kernel_rfl⟩
theorem k167 : TIok Try.prog 167 ⟨0, 1, 8, [.nilFunc], [], 0, 0⟩ := ⟨by kernel_rfl, by kernel_rfl, by kernel_rfl⟩
theorem k168 : TIok Try.prog 168 ⟨0, 1, 8, [.nilFunc], [], 0, 0⟩ := ⟨by kernel_rfl, by kernel_rfl, by kernel_rfl⟩
theorem k169 : TIok Try.prog 169 ⟨0, 1, 8, [.nilFunc], [], 0, 0⟩ := ⟨by kernel_rfl, by kernel_rfl, by kernel_rfl⟩
theorem k170 : TIok Try.prog 170 ⟨0, 1, 8, [.nilFunc], [], 0, 0⟩ := ⟨by kernel_rfl, by kernel_rfl, by kernel_rfl⟩
theorem k171 : TIok Try.prog 171 ⟨1, 2, 24, [.string ⟨#[]⟩, .int .i64 0], [(0, 1, false), (1, 1, false)], 0, 0⟩ := ⟨by kernel_rfl, by kernel_rfl, by kernel_rfl⟩
theorem k172 : TIok Try.prog 172 ⟨1, 2, 24, [.string ⟨#[]⟩, .int .i64 0], [(0, 1, false), (1, 1, false)], 0, 0⟩ := ⟨by kernel_rfl, by kernel_rfl, by kernel_rfl⟩
theorem k173 : TIok Try.prog 173 ⟨0, 1, 8, [.nilFunc], [], 0, 0⟩ := ⟨by kernel_rfl, by kernel_rfl, by kernel_rfl⟩
theorem k174 : TIok Try.prog 174 ⟨0, 1, 8, [.nilFunc], [], 0, 0⟩ := ⟨by kernel_rfl, by kernel_rfl, by kernel_rfl⟩
theorem k175 : TIok Try.prog 175 ⟨0, 1, 8, [.nilFunc], [], 0, 0⟩ := ⟨by kernel_rfl, by kernel_rfl, by kernel_rfl⟩
theorem k176 : TIok Try.prog 176 ⟨0, 1, 8, [.nilFunc], [], 0, 0⟩ := ⟨by kernel_rfl, by kernel_rfl, by kernel_rfl⟩
theorem k177 : TIok Try.prog 177 ⟨0, 1, 8, [.nilFunc], [], 0, 0⟩ := ⟨by kernel_rfl, by kernel_rfl, by kernel_rfl⟩
theorem k178 : TIok Try.prog 178 ⟨0, 1, 8, [.nilFunc], [], 0, 0⟩ := ⟨by kernel_rfl, by kernel_rfl, by kernel_rfl⟩
theorem k179 : TIok Try.prog 179 ⟨0, 1, 8, [.nilFunc], [], 0, 0⟩ := ⟨by kernel_rfl, by kernel_rfl, by kernel_rfl⟩
theorem k181 : TIok Try.prog 181 ⟨0, 1, 8, [.nilFunc], [], 0, 0⟩ := ⟨by kernel_rfl, by kernel_rfl, by kernel_rfl⟩
theorem k182 : TIok Try.prog 182 ⟨0, 1, 8, [.nilFunc], [], 0, 0⟩ := ⟨by kernel_rfl, by kernel_rfl, by kernel_rfl⟩
theorem k184 : TIok Try.prog 184 ⟨0, 1, 8, [.nilFunc], [], 0, 0⟩ := ⟨by kernel_rfl, by kernel_rfl, by kernel_rfl⟩
theorem k185 : TIok Try.prog 185 ⟨0, 1, 8, [.nilFunc], [], 0, 0⟩ := ⟨by kernel_rfl, by kernel_rfl, by kernel_rfl⟩
theorem k187 : TIok Try.prog 187 ⟨0, 1, 8, [.nilFunc], [], 0, 0⟩ := ⟨by kernel_rfl, by kernel_rfl, by kernel_rfl⟩
theorem k188 : TIok Try.prog 188 ⟨0, 1, 8, [.nilFunc], [], 0, 0⟩ := ⟨by kernel_rfl, by kernel_rfl, by kernel_rfl⟩
theorem k190 : TIok Try.prog 190 ⟨0, 1, 8, [.nilFunc], [], 0, 0⟩ := ⟨by kernel_rfl, by kernel_rfl, by kernel_rfl⟩
theorem k191 : TIok Try.prog 191 ⟨0, 1, 8, [.nilFunc], [], 0, 0⟩ := ⟨by kernel_rfl, by kernel_rfl, by kernel_rfl⟩
theorem k192 : TIok Try.prog 192 ⟨0, 1, 8, [.nilFunc], [], 0, 0⟩ := ⟨by kernel_rfl, by kernel_rfl, by kernel_rfl⟩
theorem k193 : TIok Try.prog 193 ⟨0, 1, 8, [.nilFunc], [], 0, 0⟩ := ⟨by kernel_rfl, by kernel_rfl, by kernel_rfl⟩
theorem k194 : TIok Try.prog 194 ⟨0, 1, 8, [.nilFunc], [], 0, 0⟩ := ⟨by kernel_rfl, by kernel_rfl, by kernel_rfl⟩
theorem k195 : TIok Try.prog 195 ⟨6, 1, 8, [.pointer none], [], 197, 0⟩ := ⟨by kernel_rfl, by kernel_rfl, by kernel_rfl⟩
theorem k196 : TIok Try.prog 196 ⟨1, 6, 96, [.int .i64 0, .slice none 0 0, .slice none 0 0, .slice none 0 0, .int .i64 0, .int .i64 0], [(0, 3, true), (3, 1, false), (4, 1, false), (5, 1, false)], 0, 0⟩ := ⟨by kernel_rfl, by kernel_rfl, by kernel_rfl⟩
theorem k197 : TIok Try.prog 197 ⟨1, 6, 96, [.int .i64 0, .slice none 0 0, .slice none 0 0, .slice none 0 0, .int .i64 0, .int .i64 0], [(0, 3, true), (3, 1, false), (4, 1, false), (5, 1, false)], 0, 0⟩ := ⟨by kernel_rfl, by kernel_rfl, by kernel_rfl⟩
theorem k198 : TIok Try.prog 198 ⟨0, 1, 8, [.nilFunc], [], 0, 0⟩ := ⟨by kernel_rfl, by kernel_rfl, by kernel_rfl⟩
theorem k199 : TIok Try.prog 199 ⟨0, 1, 8, [.nilFunc], [], 0, 0⟩ := ⟨by kernel_rfl, by kernel_rfl, by kernel_rfl⟩
theorem k200 : TIok Try.prog 200 ⟨0, 1, 8, [.nilFunc], [], 0, 0⟩ := ⟨by kernel_rfl, by kernel_rfl, by kernel_rfl⟩
theorem k201 : TIok Try.prog 201 ⟨3, 1, 24, [.slice none 0 0], [], 75, 0⟩ := ⟨by kernel_rfl, by kernel_rfl, by kernel_rfl⟩
theorem k202 : TIok Try.prog 202 ⟨0, 1, 8, [.nilFunc], [], 0, 0⟩ := ⟨by kernel_rfl, by kernel_rfl, by kernel_rfl⟩
theorem k203 : TIok Try.prog 203 ⟨0, 1, 8, [.nilFunc], [], 0, 0⟩ := ⟨by kernel_rfl, by kernel_rfl, by kernel_rfl⟩
theorem k204 : TIok Try.prog 204 ⟨0, 1, 8, [.nilFunc], [], 0, 0⟩ := ⟨by kernel_rfl, by kernel_rfl, by kernel_rfl⟩
theorem k205 : TIok Try.prog 205 ⟨0, 1, 8, [.nilFunc], [], 0, 0⟩ := ⟨by kernel_rfl, by kernel_rfl, by kernel_rfl⟩
theorem k206 : TIok Try.prog 206 ⟨0, 1, 8, [.nilFunc], [], 0, 0⟩ := ⟨by kernel_rfl, by kernel_rfl, by kernel_rfl⟩
theorem k207 : TIok Try.prog 207 ⟨0, 1, 8, [.nilFunc], [], 0, 0⟩ := ⟨by kernel_rfl, by kernel_rfl, by kernel_rfl⟩
theorem k208 : TIok Try.prog 208 ⟨8, 1, 8, [.int .i64 0], [], 3, 0⟩ := ⟨by kernel_rfl, by kernel_rfl, by kernel_rfl⟩
theorem k210 : TIok Try.prog 210 ⟨0, 1, 8, [.nilFunc], [], 0, 0⟩ := ⟨by kernel_rfl, by kernel_rfl, by kernel_rfl⟩
theorem k211 : TIok Try.prog 211 ⟨0, 1, 8, [.nilFunc], [], 0, 0⟩ := ⟨by kernel_rfl, by kernel_rfl, by kernel_rfl⟩
theorem k212 : TIok Try.prog 212 ⟨0, 1, 8, [.nilFunc], [], 0, 0⟩ := ⟨by kernel_rfl, by kernel_rfl, by kernel_rfl⟩
theorem k213 : TIok Try.prog 213 ⟨0, 1, 8, [.nilFunc], [], 0, 0⟩ := ⟨by kernel_rfl, by kernel_rfl, by kernel_rfl⟩
theorem k214 : TIok Try.prog 214 ⟨0, 1, 8, [.nilFunc], [], 0, 0⟩ := ⟨by kernel_rfl, by kernel_rfl, by kernel_rfl⟩
theorem k215 : TIok Try.prog 215 ⟨0, 1, 8, [.nilFunc], [], 0, 0⟩ := ⟨by kernel_rfl, by kernel_rfl, by kernel_rfl⟩
theorem k216 : TIok Try.prog 216 ⟨0, 1, 8, [.nilFunc], [], 0, 0⟩ := ⟨by kernel_rfl, by kernel_rfl, by kernel_rfl⟩
theorem k217 : TIok Try.prog 217 ⟨8, 1, 8, [.int .u64 0], [], 7, 0⟩ := ⟨by kernel_rfl, by kernel_rfl, by kernel_rfl⟩
theorem k218 : TIok Try.prog 218 ⟨0, 1, 8, [.nilFunc], [], 0, 0⟩ := ⟨by kernel_rfl, by kernel_rfl, by kernel_rfl⟩
theorem k219 : TIok Try.prog 219 ⟨0, 1, 8, [.nilFunc], [], 0, 0⟩ := ⟨by kernel_rfl, by kernel_rfl, by kernel_rfl⟩
theorem k220 : TIok Try.prog 220 ⟨0, 1, 8, [.nilFunc], [], 0, 0⟩ := ⟨by kernel_rfl, by kernel_rfl, by kernel_rfl⟩
theorem k221 : TIok Try.prog 221 ⟨6, 1, 8, [.pointer none], [], 3, 0⟩ := ⟨by kernel_rfl, by kernel_rfl, by kernel_rfl⟩
theorem k222 : TIok Try.prog 222 ⟨0, 1, 8, [.nilFunc], [], 0, 0⟩ := ⟨by kernel_rfl, by kernel_rfl, by kernel_rfl⟩
theorem k223 : TIok Try.prog 223 ⟨0, 1, 8, [.nilFunc], [], 0, 0⟩ := ⟨by kernel_rfl, by kernel_rfl, by kernel_rfl⟩
theorem k224 : TIok Try.prog 224 ⟨6, 1, 8, [.pointer none], [], 217, 0⟩ := ⟨by kernel_rfl, by kernel_rfl, by kernel_rfl⟩
theorem k226 : TIok Try.prog 226 ⟨0, 1, 8, [.nilFunc], [], 0, 0⟩ := ⟨by kernel_rfl, by kernel_rfl, by kernel_rfl⟩
theorem k227 : TIok Try.prog 227 ⟨0, 1, 8, [.nilFunc], [], 0, 0⟩ := ⟨by kernel_rfl, by kernel_rfl, by kernel_rfl⟩
theorem k228 : TIok Try.prog 228 ⟨1, 4, 40, [.pointer none, .pointer none, .pointer none, .string ⟨#[]⟩], [(0, 1, false), (1, 1, false), (2, 1, false), (3, 1, false)], 0, 0⟩ := ⟨by kernel_rfl, by kernel_rfl, by kernel_rfl⟩
theorem k229 : TIok Try.prog 229 ⟨1, 4, 40, [.pointer none, .pointer none, .pointer none, .string ⟨#[]⟩], [(0, 1, false), (1, 1, false), (2, 1, false), (3, 1, false)], 0, 0⟩ := ⟨by kernel_rfl, by kernel_rfl, by kernel_rfl⟩
theorem k230 : TIok Try.prog 230 ⟨2, 0, 0, [], [], 16, 0⟩ := ⟨by kernel_rfl, by kernel_rfl, by kernel_rfl⟩
theorem k231 : TIok Try.prog 231 ⟨1, 0, 0, [], [(0, 0, true)], 0, 0⟩ := ⟨by kernel_rfl, by kernel_rfl, by kernel_rfl⟩
theorem k232 : TIok Try.prog 232 ⟨1, 0, 0, [], [(0, 0, true)], 0, 0⟩ := ⟨by kernel_rfl, by kernel_rfl, by kernel_rfl⟩
theorem k233 : TIok Try.prog 233 ⟨8, 1, 1, [.int .u8 0], [], 4, 0⟩ := ⟨by kernel_rfl, by kernel_rfl, by kernel_rfl⟩
theorem k234 : TIok Try.prog 234 ⟨8, 1, 1, [.int .u8 0], [], 4, 0⟩ := ⟨by kernel_rfl, by kernel_rfl, by kernel_rfl⟩
theorem k235 : TIok Try.prog 235 ⟨0, 1, 8, [.nilFunc], [], 0, 0⟩ := ⟨by kernel_rfl, by kernel_rfl, by kernel_rfl⟩
theorem k236 : TIok Try.prog 236 ⟨6, 1, 8, [.pointer none], [], 5, 0⟩ := ⟨by kernel_rfl, by kernel_rfl, by kernel_rfl⟩
theorem k237 : TIok Try.prog 237 ⟨8, 1, 4, [.int .i32 0], [], 2, 0⟩ := ⟨by kernel_rfl, by kernel_rfl, by kernel_rfl⟩
theorem k238 : TIok Try.prog 238 ⟨8, 1, 4, [.int .i32 0], [], 2, 0⟩ := ⟨by kernel_rfl, by kernel_rfl, by kernel_rfl⟩
theorem k239 : TIok Try.prog 239 ⟨1, 11, 48, [.int .u64 0, .int .u64 0, .int .u32 0, .int .u8 0, .int .u8 0, .int .u8 0, .int .u8 0, .nilFunc, .pointer none, .int .i32 0, .int .i32 0], [(0, 1, false), (1, 1, false), (2, 1, false), (3, 1, false), (4, 1, false), (5, 1, false), (6, 1, false), (7, 1, false), (8, 1, false), (9, 1, false), (10, 1, false)], 0, 0⟩ := ⟨by kernel_rfl, by kernel_rfl, by kernel_rfl⟩
theorem k240 : TIok Try.prog 240 ⟨1, 11, 48, [.int .u64 0, .int .u64 0, .int .u32 0, .int .u8 0, .int .u8 0, .int .u8 0, .int .u8 0, .nilFunc, .pointer none, .int .i32 0, .int .i32 0], [(0, 1, false), (1, 1, false), (2, 1, false), (3, 1, false), (4, 1, false), (5, 1, false), (6, 1, false), (7, 1, false), (8, 1, false), (9, 1, false), (10, 1, false)], 0, 0⟩ := ⟨by kernel_rfl, by kernel_rfl, by kernel_rfl⟩
theorem k241 : TIok Try.prog 241 ⟨1, 1, 8, [.int .i64 0], [(0, 1, false)], 0, 0⟩ := ⟨by kernel_rfl, by kernel_rfl, by kernel_rfl⟩
theorem k242 : TIok Try.prog 242 ⟨1, 1, 8, [.int .i64 0], [(0, 1, false)], 0, 0⟩ := ⟨by kernel_rfl, by kernel_rfl, by kernel_rfl⟩
def tys : Ty := (.b (.b (.b (.b (.b (.b (.b (.b .n 1 ⟨0, 1, 8, [.nilFunc], [], 0, 0⟩ .n) 2 ⟨8, 1, 8, [.int .i64 0], [], 3, 0⟩ (.b .n 3 ⟨8, 1, 8, [.int .i64 0], [], 3, 0⟩ .n)) 4 ⟨7, 1, 1, [.bool false], [], 0, 0⟩ (.b (.b .n 5 ⟨8, 1, 1, [.int .u8 0], [], 4, 0⟩ .n) 6 ⟨8, 1, 1, [.int .u8 0], [], 4, 0⟩ .n)) 7 ⟨1, 4, 24, [.int .i64 0, .int .i64 0, .bool false, .int .u8 0], [(0, 1, false), (1, 1, false), (2, 1, false), (3, 1, false)], 0, 0⟩ (.b (.b (.b .n 8 ⟨1, 4, 24, [.int .i64 0, .int .i64 0, .bool false, .int .u8 0], [(0, 1, false), (1, 1, false), (2, 1, false), (3, 1, false)], 0, 0⟩ .n) 9 ⟨4, 1, 16, [.string ⟨#[]⟩], [], 0, 0⟩ (.b .n 10 ⟨4, 1, 16, [.string ⟨#[]⟩], [], 0, 0⟩ .n)) 11 ⟨4, 1, 16, [.string ⟨#[]⟩], [], 0, 0⟩ (.b (.b .n 12 ⟨8, 1, 8, [.int .u64 0], [], 7, 0⟩ .n) 13 ⟨1, 2, 24, [.string ⟨#[]⟩, .int .u64 0], [(0, 1, false), (1, 1, false)], 0, 0⟩ .n))) 14 ⟨1, 2, 24, [.string ⟨#[]⟩, .int .u64 0], [(0, 1, false), (1, 1, false)], 0, 0⟩ (.b (.b (.b (.b .n 15 ⟨6, 1, 8, [.pointer none], [], 229, 0⟩ .n) 16 ⟨6, 1, 8, [.pointer none], [], 232, 0⟩ (.b .n 17 ⟨6, 1, 8, [.pointer none], [], 240, 0⟩ .n)) 18 ⟨1, 1, 8, [.pointer none], [(0, 1, false)], 0, 0⟩ (.b (.b .n 19 ⟨1, 1, 8, [.pointer none], [(0, 1, false)], 0, 0⟩ .n) 21 ⟨8, 1, 4, [.int .i32 0], [], 2, 0⟩ .n)) 22 ⟨1, 5, 40, [.int .i64 0, .int .i64 0, .int .i64 0, .int .i64 0, .int .i64 0], [(0, 1, false), (1, 1, false), (2, 1, false), (3, 1, false), (4, 1, false)], 0, 0⟩ (.b (.b (.b .n 23 ⟨1, 5, 40, [.int .i64 0, .int .i64 0, .int .i64 0, .int .i64 0, .int .i64 0], [(0, 1, false), (1, 1, false), (2, 1, false), (3, 1, false), (4, 1, false)], 0, 0⟩ .n) 24 ⟨0, 1, 8, [.nilFunc], [], 0, 0⟩ (.b .n 25 ⟨8, 1, 8, [.int .u64 0], [], 7, 0⟩ .n)) 26 ⟨6, 1, 8, [.pointer none], [], 79, 0⟩ (.b (.b .n 27 ⟨8, 1, 8, [.int .i64 0], [], 3, 0⟩ .n) 29 ⟨0, 1, 8, [.nilFunc], [], 0, 0⟩ .n)))) 30 ⟨6, 1, 8, [.pointer none], [], 82, 0⟩ (.b (.b (.b (.b (.b .n 31 ⟨0, 1, 8, [.nilFunc], [], 0, 0⟩ .n) 32 ⟨6, 1, 8, [.pointer none], [], 85, 0⟩ (.b .n 34 ⟨0, 1, 8, [.nilFunc], [], 0, 0⟩ .n)) 35 ⟨0, 1, 8, [.nilFunc], [], 0, 0⟩ (.b (.b .n 36 ⟨3, 1, 24, [.slice none 0 0], [], 172, 0⟩ .n) 37 ⟨3, 1, 24, [.slice none 0 0], [], 102, 0⟩ .n)) 38 ⟨1, 7, 96, [.int .i64 0, .int .i64 0, .int .i64 0, .int .i64 0, .string ⟨#[]⟩, .slice none 0 0, .slice none 0 0], [(0, 1, false), (1, 1, false), (2, 1, false), (3, 1, false), (4, 1, false), (5, 1, false), (6, 1, false)], 0, 0⟩ (.b (.b (.b .n 39 ⟨1, 7, 96, [.int .i64 0, .int .i64 0, .int .i64 0, .int .i64 0, .string ⟨#[]⟩, .slice none 0 0, .slice none 0 0], [(0, 1, false), (1, 1, false), (2, 1, false), (3, 1, false), (4, 1, false), (5, 1, false), (6, 1, false)], 0, 0⟩ .n) 40 ⟨1, 9, 112, [.int .i64 0, .int .i64 0, .int .i64 0, .int .i64 0, .int .i64 0, .int .i64 0, .string ⟨#[]⟩, .slice none 0 0, .slice none 0 0], [(0, 1, false), (1, 1, false), (2, 7, true)], 0, 0⟩ (.b .n 41 ⟨1, 9, 112, [.int .i64 0, .int .i64 0, .int .i64 0, .int .i64 0, .int .i64 0, .int .i64 0, .string ⟨#[]⟩, .slice none 0 0, .slice none 0 0], [(0, 1, false), (1, 1, false), (2, 7, true)], 0, 0⟩ .n)) 42 ⟨3, 1, 24, [.slice none 0 0], [], 41, 0⟩ (.b (.b .n 43 ⟨0, 1, 8, [.nilFunc], [], 0, 0⟩ .n) 44 ⟨3, 1, 24, [.slice none 0 0], [], 39, 0⟩ .n))) 45 ⟨3, 1, 24, [.slice none 0 0], [], 3, 0⟩ (.b (.b (.b (.b .n 46 ⟨1, 3, 56, [.int .i64 0, .slice none 0 0, .slice none 0 0], [(0, 1, false), (1, 1, false), (2, 1, false)], 0, 0⟩ .n) 47 ⟨1, 3, 56, [.int .i64 0, .slice none 0 0, .slice none 0 0], [(0, 1, false), (1, 1, false), (2, 1, false)], 0, 0⟩ (.b .n 48 ⟨0, 1, 8, [.nilFunc], [], 0, 0⟩ .n)) 49 ⟨0, 1, 8, [.nilFunc], [], 0, 0⟩ (.b (.b .n 50 ⟨0, 1, 8, [.nilFunc], [], 0, 0⟩ .n) 51 ⟨3, 1, 24, [.slice none 0 0], [], 100, 0⟩ .n)) 52 ⟨0, 1, 8, [.nilFunc], [], 0, 0⟩ (.b (.b (.b .n 53 ⟨0, 1, 8, [.nilFunc], [], 0, 0⟩ .n) 54 ⟨0, 1, 8, [.nilFunc], [], 0, 0⟩ (.b .n 55 ⟨0, 1, 8, [.nilFunc], [], 0, 0⟩ .n)) 56 ⟨8, 1, 4, [.int .u32 0], [], 6, 0⟩ (.b (.b .n 57 ⟨1, 3, 24, [.int .i64 0, .int .i64 0, .int .u32 0], [(0, 1, false), (1, 1, false), (2, 1, false)], 0, 0⟩ .n) 58 ⟨1, 3, 24, [.int .i64 0, .int .i64 0, .int .u32 0], [(0, 1, false), (1, 1, false), (2, 1, false)], 0, 0⟩ .n))))) 59 ⟨3, 1, 24, [.slice none 0 0], [], 58, 0⟩ (.b (.b (.b (.b (.b (.b .n 60 ⟨0, 1, 8, [.nilFunc], [], 0, 0⟩ .n) 61 ⟨0, 1, 8, [.nilFunc], [], 0, 0⟩ (.b .n 62 ⟨1, 4, 32, [.int .i64 0, .int .i64 0, .int .i64 0, .bool false], [(0, 1, false), (1, 1, false), (2, 1, false), (3, 1, false)], 0, 0⟩ .n)) 63 ⟨1, 4, 32, [.int .i64 0, .int .i64 0, .int .i64 0, .bool false], [(0, 1, false), (1, 1, false), (2, 1, false), (3, 1, false)], 0, 0⟩ (.b (.b .n 64 ⟨3, 1, 24, [.slice none 0 0], [], 63, 0⟩ .n) 65 ⟨0, 1, 8, [.nilFunc], [], 0, 0⟩ .n)) 66 ⟨0, 1, 8, [.nilFunc], [], 0, 0⟩ (.b (.b (.b .n 67 ⟨0, 1, 8, [.nilFunc], [], 0, 0⟩ .n) 69 ⟨0, 1, 8, [.nilFunc], [], 0, 0⟩ (.b .n 71 ⟨0, 1, 8, [.nilFunc], [], 0, 0⟩ .n)) 72 ⟨0, 1, 8, [.nilFunc], [], 0, 0⟩ (.b (.b .n 73 ⟨0, 1, 8, [.nilFunc], [], 0, 0⟩ .n) 74 ⟨0, 1, 8, [.nilFunc], [], 0, 0⟩ .n))) 75 ⟨3, 1, 24, [.slice none 0 0], [], 5, 0⟩ (.b (.b (.b (.b .n 76 ⟨0, 1, 8, [.nilFunc], [], 0, 0⟩ .n) 77 ⟨5, 1, 8, [.map none], [], 0, 0⟩ (.b .n 78 ⟨1, 8, 80, [.int .i64 0, .int .i64 0, .int .i64 0, .int .i64 0, .int .i64 0, .pointer none, .slice none 0 0, .map none], [(0, 5, true), (5, 1, false), (6, 1, false), (7, 1, false)], 0, 0⟩ .n)) 79 ⟨1, 8, 80, [.int .i64 0, .int .i64 0, .int .i64 0, .int .i64 0, .int .i64 0, .pointer none, .slice none 0 0, .map none], [(0, 5, true), (5, 1, false), (6, 1, false), (7, 1, false)], 0, 0⟩ (.b (.b .n 80 ⟨5, 1, 8, [.map none], [], 0, 0⟩ .n) 81 ⟨1, 5, 32, [.int .i64 0, .int .u8 0, .bool false, .map none, .int .i64 0], [(0, 1, false), (1, 1, false), (2, 1, false), (3, 1, false), (4, 1, false)], 0, 0⟩ .n)) 82 ⟨1, 5, 32, [.int .i64 0, .int .u8 0, .bool false, .map none, .int .i64 0], [(0, 1, false), (1, 1, false), (2, 1, false), (3, 1, false), (4, 1, false)], 0, 0⟩ (.b (.b (.b .n 83 ⟨0, 1, 8, [.nilFunc], [], 0, 0⟩ .n) 84 ⟨1, 8, 96, [.pointer none, .int .i64 0, .int .i64 0, .int .i64 0, .int .i64 0, .slice none 0 0, .slice none 0 0, .bool false], [(0, 1, false), (1, 1, false), (2, 1, false), (3, 1, false), (4, 3, true), (7, 1, false)], 0, 0⟩ (.b .n 85 ⟨1, 8, 96, [.pointer none, .int .i64 0, .int .i64 0, .int .i64 0, .int .i64 0, .slice none 0 0, .slice none 0 0, .bool false], [(0, 1, false), (1, 1, false), (2, 1, false), (3, 1, false), (4, 3, true), (7, 1, false)], 0, 0⟩ .n)) 86 ⟨0, 1, 8, [.nilFunc], [], 0, 0⟩ (.b (.b .n 87 ⟨0, 1, 8, [.nilFunc], [], 0, 0⟩ .n) 88 ⟨0, 1, 8, [.nilFunc], [], 0, 0⟩ .n)))) 89 ⟨1, 3, 24, [.int .i64 0, .int .i64 0, .int .i64 0], [(0, 1, false), (1, 1, false), (2, 1, false)], 0, 0⟩ (.b (.b (.b (.b (.b .n 90 ⟨1, 3, 24, [.int .i64 0, .int .i64 0, .int .i64 0], [(0, 1, false), (1, 1, false), (2, 1, false)], 0, 0⟩ .n) 91 ⟨0, 1, 8, [.nilFunc], [], 0, 0⟩ (.b .n 92 ⟨0, 1, 8, [.nilFunc], [], 0, 0⟩ .n)) 93 ⟨0, 1, 8, [.nilFunc], [], 0, 0⟩ (.b (.b .n 94 ⟨0, 1, 8, [.nilFunc], [], 0, 0⟩ .n) 95 ⟨0, 1, 8, [.nilFunc], [], 0, 0⟩ .n)) 96 ⟨0, 1, 8, [.nilFunc], [], 0, 0⟩ (.b (.b (.b .n 97 ⟨0, 1, 8, [.nilFunc], [], 0, 0⟩ .n) 98 ⟨0, 1, 8, [.nilFunc], [], 0, 0⟩ (.b .n 99 ⟨1, 4, 48, [.int .i64 0, .string ⟨#[]⟩, .string ⟨#[]⟩, .int .i64 0], [(0, 1, false), (1, 1, false), (2, 1, false), (3, 1, false)], 0, 0⟩ .n)) 100 ⟨1, 4, 48, [.int .i64 0, .string ⟨#[]⟩, .string ⟨#[]⟩, .int .i64 0], [(0, 1, false), (1, 1, false), (2, 1, false), (3, 1, false)], 0, 0⟩ (.b (.b .n 101 ⟨1, 3, 24, [.int .i64 0, .int .i64 0, .int .i64 0], [(0, 1, false), (1, 1, false), (2, 1, false)], 0, 0⟩ .n) 102 ⟨1, 3, 24, [.int .i64 0, .int .i64 0, .int .i64 0], [(0, 1, false), (1, 1, false), (2, 1, false)], 0, 0⟩ .n))) 103 ⟨0, 1, 8, [.nilFunc], [], 0, 0⟩ (.b (.b (.b (.b .n 105 ⟨0, 1, 8, [.nilFunc], [], 0, 0⟩ .n) 106 ⟨0, 1, 8, [.nilFunc], [], 0, 0⟩ (.b .n 107 ⟨0, 1, 8, [.nilFunc], [], 0, 0⟩ .n)) 108 ⟨0, 1, 8, [.nilFunc], [], 0, 0⟩ (.b (.b .n 109 ⟨5, 1, 8, [.map none], [], 0, 0⟩ .n) 110 ⟨0, 1, 8, [.nilFunc], [], 0, 0⟩ .n)) 111 ⟨0, 1, 8, [.nilFunc], [], 0, 0⟩ (.b (.b (.b .n 112 ⟨1, 1, 8, [.int .i64 0], [(0, 1, false)], 0, 0⟩ .n) 113 ⟨1, 1, 8, [.int .i64 0], [(0, 1, false)], 0, 0⟩ .n) 114 ⟨0, 1, 8, [.nilFunc], [], 0, 0⟩ (.b (.b .n 116 ⟨0, 1, 8, [.nilFunc], [], 0, 0⟩ .n) 117 ⟨0, 1, 8, [.nilFunc], [], 0, 0⟩ .n)))))) 118 ⟨0, 1, 8, [.nilFunc], [], 0, 0⟩ (.b (.b (.b (.b (.b (.b (.b .n 119 ⟨0, 1, 8, [.nilFunc], [], 0, 0⟩ .n) 120 ⟨0, 1, 8, [.nilFunc], [], 0, 0⟩ (.b .n 121 ⟨0, 1, 8, [.nilFunc], [], 0, 0⟩ .n)) 123 ⟨0, 1, 8, [.nilFunc], [], 0, 0⟩ (.b (.b .n 124 ⟨0, 1, 8, [.nilFunc], [], 0, 0⟩ .n) 125 ⟨0, 1, 8, [.nilFunc], [], 0, 0⟩ .n)) 126 ⟨0, 1, 8, [.nilFunc], [], 0, 0⟩ (.b (.b (.b .n 128 ⟨0, 1, 8, [.nilFunc], [], 0, 0⟩ .n) 129 ⟨0, 1, 8, [.nilFunc], [], 0, 0⟩ (.b .n 130 ⟨0, 1, 8, [.nilFunc], [], 0, 0⟩ .n)) 131 ⟨0, 1, 8, [.nilFunc], [], 0, 0⟩ (.b (.b .n 132 ⟨8, 1, 8, [.int .u64 0], [], 7, 0⟩ .n) 133 ⟨0, 1, 8, [.nilFunc], [], 0, 0⟩ .n))) 134 ⟨0, 1, 8, [.nilFunc], [], 0, 0⟩ (.b (.b (.b (.b .n 135 ⟨0, 1, 8, [.nilFunc], [], 0, 0⟩ .n) 136 ⟨0, 1, 8, [.nilFunc], [], 0, 0⟩ (.b .n 137 ⟨0, 1, 8, [.nilFunc], [], 0, 0⟩ .n)) 138 ⟨0, 1, 8, [.nilFunc], [], 0, 0⟩ (.b (.b .n 139 ⟨0, 1, 8, [.nilFunc], [], 0, 0⟩ .n) 140 ⟨0, 1, 8, [.nilFunc], [], 0, 0⟩ .n)) 142 ⟨0, 1, 8, [.nilFunc], [], 0, 0⟩ (.b (.b (.b .n 144 ⟨0, 1, 8, [.nilFunc], [], 0, 0⟩ .n) 145 ⟨0, 1, 8, [.nilFunc], [], 0, 0⟩ (.b .n 146 ⟨0, 1, 8, [.nilFunc], [], 0, 0⟩ .n)) 147 ⟨0, 1, 8, [.nilFunc], [], 0, 0⟩ (.b (.b .n 148 ⟨3, 1, 24, [.slice none 0 0], [], 9, 0⟩ .n) 150 ⟨0, 1, 8, [.nilFunc], [], 0, 0⟩ .n)))) 151 ⟨0, 1, 8, [.nilFunc], [], 0, 0⟩ (.b (.b (.b (.b (.b .n 152 ⟨0, 1, 8, [.nilFunc], [], 0, 0⟩ .n) 153 ⟨0, 1, 8, [.nilFunc], [], 0, 0⟩ (.b .n 154 ⟨0, 1, 8, [.nilFunc], [], 0, 0⟩ .n)) 155 ⟨0, 1, 8, [.nilFunc], [], 0, 0⟩ (.b (.b .n 157 ⟨0, 1, 8, [.nilFunc], [], 0, 0⟩ .n) 159 ⟨0, 1, 8, [.nilFunc], [], 0, 0⟩ .n)) 161 ⟨0, 1, 8, [.nilFunc], [], 0, 0⟩ (.b (.b (.b .n 162 ⟨0, 1, 8, [.nilFunc], [], 0, 0⟩ .n) 163 ⟨2, 1, 8, [.int .i64 0], [], 3, 1⟩ (.b .n 164 ⟨0, 1, 8, [.nilFunc], [], 0, 0⟩ .n)) 165 ⟨2, 4, 32, [.int .i64 0, .int .i64 0, .int .i64 0, .int .i64 0], [], 3, 4⟩ (.b (.b .n 166 ⟨0, 1, 8, [.nilFunc], [], 0, 0⟩ .n) 167 ⟨0, 1, 8, [.nilFunc], [], 0, 0⟩ .n))) 168 ⟨0, 1, 8, [.nilFunc], [], 0, 0⟩ (.b (.b (.b (.b .n 169 ⟨0, 1, 8, [.nilFunc], [], 0, 0⟩ .n) 170 ⟨0, 1, 8, [.nilFunc], [], 0, 0⟩ (.b .n 171 ⟨1, 2, 24, [.string ⟨#[]⟩, .int .i64 0], [(0, 1, false), (1, 1, false)], 0, 0⟩ .n)) 172 ⟨1, 2, 24, [.string ⟨#[]⟩, .int .i64 0], [(0, 1, false), (1, 1, false)], 0, 0⟩ (.b (.b .n 173 ⟨0, 1, 8, [.nilFunc], [], 0, 0⟩ .n) 174 ⟨0, 1, 8, [.nilFunc], [], 0, 0⟩ .n)) 175 ⟨0, 1, 8, [.nilFunc], [], 0, 0⟩ (.b (.b (.b .n 176 ⟨0, 1, 8, [.nilFunc], [], 0, 0⟩ .n) 177 ⟨0, 1, 8, [.nilFunc], [], 0, 0⟩ (.b .n 178 ⟨0, 1, 8, [.nilFunc], [], 0, 0⟩ .n)) 179 ⟨0, 1, 8, [.nilFunc], [], 0, 0⟩ (.b (.b .n 181 ⟨0, 1, 8, [.nilFunc], [], 0, 0⟩ .n) 182 ⟨0, 1, 8, [.nilFunc], [], 0, 0⟩ .n))))) 184 ⟨0, 1, 8, [.nilFunc], [], 0, 0⟩ (.b (.b (.b (.b (.b (.b .n 185 ⟨0, 1, 8, [.nilFunc], [], 0, 0⟩ .n) 187 ⟨0, 1, 8, [.nilFunc], [], 0, 0⟩ (.b .n 188 ⟨0, 1, 8, [.nilFunc], [], 0, 0⟩ .n)) 190 ⟨0, 1, 8, [.nilFunc], [], 0, 0⟩ (.b (.b .n 191 ⟨0, 1, 8, [.nilFunc], [], 0, 0⟩ .n) 192 ⟨0, 1, 8, [.nilFunc], [], 0, 0⟩ .n)) 193 ⟨0, 1, 8, [.nilFunc], [], 0, 0⟩ (.b (.b (.b .n 194 ⟨0, 1, 8, [.nilFunc], [], 0, 0⟩ .n) 195 ⟨6, 1, 8, [.pointer none], [], 197, 0⟩ (.b .n 196 ⟨1, 6, 96, [.int .i64 0, .slice none 0 0, .slice none 0 0, .slice none 0 0, .int .i64 0, .int .i64 0], [(0, 3, true), (3, 1, false), (4, 1, false), (5, 1, false)], 0, 0⟩ .n)) 197 ⟨1, 6, 96, [.int .i64 0, .slice none 0 0, .slice none 0 0, .slice none 0 0, .int .i64 0, .int .i64 0], [(0, 3, true), (3, 1, false), (4, 1, false), (5, 1, false)], 0, 0⟩ (.b (.b .n 198 ⟨0, 1, 8, [.nilFunc], [], 0, 0⟩ .n) 199 ⟨0, 1, 8, [.nilFunc], [], 0, 0⟩ .n))) 200 ⟨0, 1, 8, [.nilFunc], [], 0, 0⟩ (.b (.b (.b (.b .n 201 ⟨3, 1, 24, [.slice none 0 0], [], 75, 0⟩ .n) 202 ⟨0, 1, 8, [.nilFunc], [], 0, 0⟩ (.b .n 203 ⟨0, 1, 8, [.nilFunc], [], 0, 0⟩ .n)) 204 ⟨0, 1, 8, [.nilFunc], [], 0, 0⟩ (.b (.b .n 205 ⟨0, 1, 8, [.nilFunc], [], 0, 0⟩ .n) 206 ⟨0, 1, 8, [.nilFunc], [], 0, 0⟩ .n)) 207 ⟨0, 1, 8, [.nilFunc], [], 0, 0⟩ (.b (.b (.b .n 208 ⟨8, 1, 8, [.int .i64 0], [], 3, 0⟩ .n) 210 ⟨0, 1, 8, [.nilFunc], [], 0, 0⟩ (.b .n 211 ⟨0, 1, 8, [.nilFunc], [], 0, 0⟩ .n)) 212 ⟨0, 1, 8, [.nilFunc], [], 0, 0⟩ (.b (.b .n 213 ⟨0, 1, 8, [.nilFunc], [], 0, 0⟩ .n) 214 ⟨0, 1, 8, [.nilFunc], [], 0, 0⟩ .n)))) 215 ⟨0, 1, 8, [.nilFunc], [], 0, 0⟩ (.b (.b (.b (.b (.b .n 216 ⟨0, 1, 8, [.nilFunc], [], 0, 0⟩ .n) 217 ⟨8, 1, 8, [.int .u64 0], [], 7, 0⟩ (.b .n 218 ⟨0, 1, 8, [.nilFunc], [], 0, 0⟩ .n)) 219 ⟨0, 1, 8, [.nilFunc], [], 0, 0⟩ (.b (.b .n 220 ⟨0, 1, 8, [.nilFunc], [], 0, 0⟩ .n) 221 ⟨6, 1, 8, [.pointer none], [], 3, 0⟩ .n)) 222 ⟨0, 1, 8, [.nilFunc], [], 0, 0⟩ (.b (.b (.b .n 223 ⟨0, 1, 8, [.nilFunc], [], 0, 0⟩ .n) 224 ⟨6, 1, 8, [.pointer none], [], 217, 0⟩ (.b .n 226 ⟨0, 1, 8, [.nilFunc], [], 0, 0⟩ .n)) 227 ⟨0, 1, 8, [.nilFunc], [], 0, 0⟩ (.b (.b .n 228 ⟨1, 4, 40, [.pointer none, .pointer none, .pointer none, .string ⟨#[]⟩], [(0, 1, false), (1, 1, false), (2, 1, false), (3, 1, false)], 0, 0⟩ .n) 229 ⟨1, 4, 40, [.pointer none, .pointer none, .pointer none, .string ⟨#[]⟩], [(0, 1, false), (1, 1, false), (2, 1, false), (3, 1, false)], 0, 0⟩ .n))) 230 ⟨2, 0, 0, [], [], 16, 0⟩ (.b (.b (.b (.b .n 231 ⟨1, 0, 0, [], [(0, 0, true)], 0, 0⟩ .n) 232 ⟨1, 0, 0, [], [(0, 0, true)], 0, 0⟩ (.b .n 233 ⟨8, 1, 1, [.int .u8 0], [], 4, 0⟩ .n)) 234 ⟨8, 1, 1, [.int .u8 0], [], 4, 0⟩ (.b (.b .n 235 ⟨0, 1, 8, [.nilFunc], [], 0, 0⟩ .n) 236 ⟨6, 1, 8, [.pointer none], [], 5, 0⟩ .n)) 237 ⟨8, 1, 4, [.int .i32 0], [], 2, 0⟩ (.b (.b (.b .n 238 ⟨8, 1, 4, [.int .i32 0], [], 2, 0⟩ .n) 239 ⟨1, 11, 48, [.int .u64 0, .int .u64 0, .int .u32 0, .int .u8 0, .int .u8 0, .int .u8 0, .int .u8 0, .nilFunc, .pointer none, .int .i32 0, .int .i32 0], [(0, 1, false), (1, 1, false), (2, 1, false), (3, 1, false), (4, 1, false), (5, 1, false), (6, 1, false), (7, 1, false), (8, 1, false), (9, 1, false), (10, 1, false)], 0, 0⟩ .n) 240 ⟨1, 11, 48, [.int .u64 0, .int .u64 0, .int .u32 0, .int .u8 0, .int .u8 0, .int .u8 0, .int .u8 0, .nilFunc, .pointer none, .int .i32 0, .int .i32 0], [(0, 1, false), (1, 1, false), (2, 1, false), (3, 1, false), (4, 1, false), (5, 1, false), (6, 1, false), (7, 1, false), (8, 1, false), (9, 1, false), (10, 1, false)], 0, 0⟩ (.b (.b .n 241 ⟨1, 1, 8, [.int .i64 0], [(0, 1, false)], 0, 0⟩ .n) 242 ⟨1, 1, 8, [.int .i64 0], [(0, 1, false)], 0, 0⟩ .n)))))))
theorem tysOk : TyOk Try.prog tys := ⟨⟨⟨⟨⟨⟨⟨⟨trivial, k1, trivial⟩, k2, ⟨trivial, k3, trivial⟩⟩, k4, ⟨⟨trivial, k5, trivial⟩, k6, trivial⟩⟩, k7, ⟨⟨⟨trivial, k8, trivial⟩, k9, ⟨trivial, k10, trivial⟩⟩, k11, ⟨⟨trivial, k12, trivial⟩, k13, trivial⟩⟩⟩, k14, ⟨⟨⟨⟨trivial, k15, trivial⟩, k16, ⟨trivial, k17, trivial⟩⟩, k18, ⟨⟨trivial, k19, trivial⟩, k21, trivial⟩⟩, k22, ⟨⟨⟨trivial, k23, trivial⟩, k24, ⟨trivial, k25, trivial⟩⟩, k26, ⟨⟨trivial, k27, trivial⟩, k29, trivial⟩⟩⟩⟩, k30, ⟨⟨⟨⟨⟨trivial, k31, trivial⟩, k32, ⟨trivial, k34, trivial⟩⟩, k35, ⟨⟨trivial, k36, trivial⟩, k37, trivial⟩⟩, k38, ⟨⟨⟨trivial, k39, trivial⟩, k40, ⟨trivial, k41, trivial⟩⟩, k42, ⟨⟨trivial, k43, trivial⟩, k44, trivial⟩⟩⟩, k45, ⟨⟨⟨⟨trivial, k46, trivial⟩, k47, ⟨trivial, k48, trivial⟩⟩, k49, ⟨⟨trivial, k50, trivial⟩, k51, trivial⟩⟩, k52, ⟨⟨⟨trivial, k53, trivial⟩, k54, ⟨trivial, k55, trivial⟩⟩, k56, ⟨⟨trivial, k57, trivial⟩, k58, trivial⟩⟩⟩⟩⟩, k59, ⟨⟨⟨⟨⟨⟨trivial, k60, trivial⟩, k61, ⟨trivial, k62, trivial⟩⟩, k63, ⟨⟨trivial, k64, trivial⟩, k65, trivial⟩⟩, k66, ⟨⟨⟨trivial, k67, trivial⟩, k69, ⟨trivial, k71, trivial⟩⟩, k72, ⟨⟨trivial, k73, trivial⟩, k74, trivial⟩⟩⟩, k75, ⟨⟨⟨⟨trivial, k76, trivial⟩, k77, ⟨trivial, k78, trivial⟩⟩, k79, ⟨⟨trivial, k80, trivial⟩, k81, trivial⟩⟩, k82, ⟨⟨⟨trivial, k83, trivial⟩, k84, ⟨trivial, k85, trivial⟩⟩, k86, ⟨⟨trivial, k87, trivial⟩, k88, trivial⟩⟩⟩⟩, k89, ⟨⟨⟨⟨⟨trivial, k90, trivial⟩, k91, ⟨trivial, k92, trivial⟩⟩, k93, ⟨⟨trivial, k94, trivial⟩, k95, trivial⟩⟩, k96, ⟨⟨⟨trivial, k97, trivial⟩, k98, ⟨trivial, k99, trivial⟩⟩, k100, ⟨⟨trivial, k101, trivial⟩, k102, trivial⟩⟩⟩, k103, ⟨⟨⟨⟨trivial, k105, trivial⟩, k106, ⟨trivial, k107, trivial⟩⟩, k108, ⟨⟨trivial, k109, trivial⟩, k110, trivial⟩⟩, k111, ⟨⟨⟨trivial, k112, trivial⟩, k113, trivial⟩, k114, ⟨⟨trivial, k116, trivial⟩, k117, trivial⟩⟩⟩⟩⟩⟩, k118, ⟨⟨⟨⟨⟨⟨⟨trivial, k119, trivial⟩, k120, ⟨trivial, k121, trivial⟩⟩, k123, ⟨⟨trivial, k124, trivial⟩, k125, trivial⟩⟩, k126, ⟨⟨⟨trivial, k128, trivial⟩, k129, ⟨trivial, k130, trivial⟩⟩, k131, ⟨⟨trivial, k132, trivial⟩, k133, trivial⟩⟩⟩, k134, ⟨⟨⟨⟨trivial, k135, trivial⟩, k136, ⟨trivial, k137, trivial⟩⟩, k138, ⟨⟨trivial, k139, trivial⟩, k140, trivial⟩⟩, k142, ⟨⟨⟨trivial, k144, trivial⟩, k145, ⟨trivial, k146, trivial⟩⟩, k147, ⟨⟨trivial, k148, trivial⟩, k150, trivial⟩⟩⟩⟩, k151, ⟨⟨⟨⟨⟨trivial, k152, trivial⟩, k153, ⟨trivial, k154, trivial⟩⟩, k155, ⟨⟨trivial, k157, trivial⟩, k159, trivial⟩⟩, k161, ⟨⟨⟨trivial, k162, trivial⟩, k163, ⟨trivial, k164, trivial⟩⟩, k165, ⟨⟨trivial, k166, trivial⟩, k167, trivial⟩⟩⟩, k168, ⟨⟨⟨⟨trivial, k169, trivial⟩, k170, ⟨trivial, k171, trivial⟩⟩, k172, ⟨⟨trivial, k173, trivial⟩, k174, trivial⟩⟩, k175, ⟨⟨⟨trivial, k176, trivial⟩, k177, ⟨trivial, k178, trivial⟩⟩, k179, ⟨⟨trivial, k181, trivial⟩, k182, trivial⟩⟩⟩⟩⟩, k184, ⟨⟨⟨⟨⟨⟨trivial, k185, trivial⟩, k187, ⟨trivial, k188, trivial⟩⟩, k190, ⟨⟨trivial, k191, trivial⟩, k192, trivial⟩⟩, k193, ⟨⟨⟨trivial, k194, trivial⟩, k195, ⟨trivial, k196, trivial⟩⟩, k197, ⟨⟨trivial, k198, trivial⟩, k199, trivial⟩⟩⟩, k200, ⟨⟨⟨⟨trivial, k201, trivial⟩, k202, ⟨trivial, k203, trivial⟩⟩, k204, ⟨⟨trivial, k205, trivial⟩, k206, trivial⟩⟩, k207, ⟨⟨⟨trivial, k208, trivial⟩, k210, ⟨trivial, k211, trivial⟩⟩, k212, ⟨⟨trivial, k213, trivial⟩, k214, trivial⟩⟩⟩⟩, k215, ⟨⟨⟨⟨⟨trivial, k216, trivial⟩, k217, ⟨trivial, k218, trivial⟩⟩, k219, ⟨⟨trivial, k220, trivial⟩, k221, trivial⟩⟩, k222, ⟨⟨⟨trivial, k223, trivial⟩, k224, ⟨trivial, k226, trivial⟩⟩, k227, ⟨⟨trivial, k228, trivial⟩, k229, trivial⟩⟩⟩, k230, ⟨⟨⟨⟨trivial, k231, trivial⟩, k232, ⟨trivial, k233, trivial⟩⟩, k234, ⟨⟨trivial, k235, trivial⟩, k236, trivial⟩⟩, k237, ⟨⟨⟨trivial, k238, trivial⟩, k239, trivial⟩, k240, ⟨⟨trivial, k241, trivial⟩, k242, trivial⟩⟩⟩⟩⟩⟩⟩
theorem mixed : Try.prog.follows .mixedOrders = true := by kernel_rfl
@[simp] theorem t1 : tf 1 tys = some ⟨0, 1, 8, [.nilFunc], [], 0, 0⟩ := rfl
@[simp] theorem t2 : tf 2 tys = some ⟨8, 1, 8, [.int .i64 0], [], 3, 0⟩ := rfl
@[simp] theorem t3 : tf 3 tys = some ⟨8, 1, 8, [.int .i64 0], [], 3, 0⟩ := rfl
@[simp] theorem t4 : tf 4 tys = some ⟨7, 1, 1, [.bool false], [], 0, 0⟩ := rfl
@[simp] theorem t5 : tf 5 tys = some ⟨8, 1, 1, [.int .u8 0], [], 4, 0⟩ := rfl
@[simp] theorem t6 : tf 6 tys = some ⟨8, 1, 1, [.int .u8 0], [], 4, 0⟩ := rfl
@[simp] theorem t7 : tf 7 tys = some ⟨1, 4, 24, [.int .i64 0, .int .i64 0, .bool false, .int .u8 0], [(0, 1, false), (1, 1, false), (2, 1, false), (3, 1, false)], 0, 0⟩ := rfl
@[simp] theorem t8 : tf 8 tys = some ⟨1, 4, 24, [.int .i64 0, .int .i64 0, .bool false, .int .u8 0], [(0, 1, false), (1, 1, false), (2, 1, false), (3, 1, false)], 0, 0⟩ := rfl
@[simp] theorem t9 : tf 9 tys = some ⟨4, 1, 16, [.string ⟨#[]⟩], [], 0, 0⟩ := rfl
@[simp] theorem t10 : tf 10 tys = some ⟨4, 1, 16, [.string ⟨#[]⟩], [], 0, 0⟩ := rfl
@[simp] theorem t11 : tf 11 tys = some ⟨4, 1, 16, [.string ⟨#[]⟩], [], 0, 0⟩ := rfl
@[simp] theorem t12 : tf 12 tys = some ⟨8, 1, 8, [.int .u64 0], [], 7, 0⟩ := rfl
@[simp] theorem t13 : tf 13 tys = some ⟨1, 2, 24, [.string ⟨#[]⟩, .int .u64 0], [(0, 1, false), (1, 1, false)], 0, 0⟩ := rfl
@[simp] theorem t14 : tf 14 tys = some ⟨1, 2, 24, [.string ⟨#[]⟩, .int .u64 0], [(0, 1, false), (1, 1, false)], 0, 0⟩ := rfl
@[simp] theorem t15 : tf 15 tys = some ⟨6, 1, 8, [.pointer none], [], 229, 0⟩ := rfl
@[simp] theorem t16 : tf 16 tys = some ⟨6, 1, 8, [.pointer none], [], 232, 0⟩ := rfl
@[simp] theorem t17 : tf 17 tys = some ⟨6, 1, 8, [.pointer none], [], 240, 0⟩ := rfl
@[simp] theorem t18 : tf 18 tys = some ⟨1, 1, 8, [.pointer none], [(0, 1, false)], 0, 0⟩ := rfl
@[simp] theorem t19 : tf 19 tys = some ⟨1, 1, 8, [.pointer none], [(0, 1, false)], 0, 0⟩ := rfl
@[simp] theorem t21 : tf 21 tys = some ⟨8, 1, 4, [.int .i32 0], [], 2, 0⟩ := rfl
@[simp] theorem t22 : tf 22 tys = some ⟨1, 5, 40, [.int .i64 0, .int .i64 0, .int .i64 0, .int .i64 0, .int .i64 0], [(0, 1, false), (1, 1, false), (2, 1, false), (3, 1, false), (4, 1, false)], 0, 0⟩ := rfl
@[simp] theorem t23 : tf 23 tys = some ⟨1, 5, 40, [.int .i64 0, .int .i64 0, .int .i64 0, .int .i64 0, .int .i64 0], [(0, 1, false), (1, 1, false), (2, 1, false), (3, 1, false), (4, 1, false)], 0, 0⟩ := rfl
@[simp] theorem t24 : tf 24 tys = some ⟨0, 1, 8, [.nilFunc], [], 0, 0⟩ := rfl
@[simp] theorem t25 : tf 25 tys = some ⟨8, 1, 8, [.int .u64 0], [], 7, 0⟩ := rfl
@[simp] theorem t26 : tf 26 tys = some ⟨6, 1, 8, [.pointer none], [], 79, 0⟩ := rfl
@[simp] theorem t27 : tf 27 tys = some ⟨8, 1, 8, [.int .i64 0], [], 3, 0⟩ := rfl
@[simp] theorem t29 : tf 29 tys = some ⟨0, 1, 8, [.nilFunc], [], 0, 0⟩ := rfl
@[simp] theorem t30 : tf 30 tys = some ⟨6, 1, 8, [.pointer none], [], 82, 0⟩ := rfl
@[simp] theorem t31 : tf 31 tys = some ⟨0, 1, 8, [.nilFunc], [], 0, 0⟩ := rfl
@[simp] theorem t32 : tf 32 tys = some ⟨6, 1, 8, [.pointer none], [], 85, 0⟩ := rfl
@[simp] theorem t34 : tf 34 tys = some ⟨0, 1, 8, [.nilFunc], [], 0, 0⟩ := rfl
@[simp] theorem t35 : tf 35 tys = some ⟨0, 1, 8, [.nilFunc], [], 0, 0⟩ := rfl
@[simp] theorem t36 : tf 36 tys = some ⟨3, 1, 24, [.slice none 0 0], [], 172, 0⟩ := rfl
@[simp] theorem t37 : tf 37 tys = some ⟨3, 1, 24, [.slice none 0 0], [], 102, 0⟩ := rfl
@[simp] theorem t38 : tf 38 tys = some ⟨1, 7, 96, [.int .i64 0, .int .i64 0, .int .i64 0, .int .i64 0, .string ⟨#[]⟩, .slice none 0 0, .slice none 0 0], [(0, 1, false), (1, 1, false), (2, 1, false), (3, 1, false), (4, 1, false), (5, 1, false), (6, 1, false)], 0, 0⟩ := rfl
@[simp] theorem t39 : tf 39 tys = some ⟨1, 7, 96, [.int .i64 0, .int .i64 0, .int .i64 0, .int .i64 0, .string ⟨#[]⟩, .slice none 0 0, .slice none 0 0], [(0, 1, false), (1, 1, false), (2, 1, false), (3, 1, false), (4, 1, false), (5, 1, false), (6, 1, false)], 0, 0⟩ := rfl
@[simp] theorem t40 : tf 40 tys = some ⟨1, 9, 112, [.int .i64 0, .int .i64 0, .int .i64 0, .int .i64 0, .int .i64 0, .int .i64 0, .string ⟨#[]⟩, .slice none 0 0, .slice none 0 0], [(0, 1, false), (1, 1, false), (2, 7, true)], 0, 0⟩ := rfl
@[simp] theorem t41 : tf 41 tys = some ⟨1, 9, 112, [.int .i64 0, .int .i64 0, .int .i64 0, .int .i64 0, .int .i64 0, .int .i64 0, .string ⟨#[]⟩, .slice none 0 0, .slice none 0 0], [(0, 1, false), (1, 1, false), (2, 7, true)], 0, 0⟩ := rfl
@[simp] theorem t42 : tf 42 tys = some ⟨3, 1, 24, [.slice none 0 0], [], 41, 0⟩ := rfl
@[simp] theorem t43 : tf 43 tys = some ⟨0, 1, 8, [.nilFunc], [], 0, 0⟩ := rfl
@[simp] theorem t44 : tf 44 tys = some ⟨3, 1, 24, [.slice none 0 0], [], 39, 0⟩ := rfl
@[simp] theorem t45 : tf 45 tys = some ⟨3, 1, 24, [.slice none 0 0], [], 3, 0⟩ := rfl
@[simp] theorem t46 : tf 46 tys = some ⟨1, 3, 56, [.int .i64 0, .slice none 0 0, .slice none 0 0], [(0, 1, false), (1, 1, false), (2, 1, false)], 0, 0⟩ := rfl
@[simp] theorem t47 : tf 47 tys = some ⟨1, 3, 56, [.int .i64 0, .slice none 0 0, .slice none 0 0], [(0, 1, false), (1, 1, false), (2, 1, false)], 0, 0⟩ := rfl
@[simp] theorem t48 : tf 48 tys = some ⟨0, 1, 8, [.nilFunc], [], 0, 0⟩ := rfl
@[simp] theorem t49 : tf 49 tys = some ⟨0, 1, 8, [.nilFunc], [], 0, 0⟩ := rfl
@[simp] theorem t50 : tf 50 tys = some ⟨0, 1, 8, [.nilFunc], [], 0, 0⟩ := rfl
@[simp] theorem t51 : tf 51 tys = some ⟨3, 1, 24, [.slice none 0 0], [], 100, 0⟩ := rfl
@[simp] theorem t52 : tf 52 tys = some ⟨0, 1, 8, [.nilFunc], [], 0, 0⟩ := rfl
@[simp] theorem t53 : tf 53 tys = some ⟨0, 1, 8, [.nilFunc], [], 0, 0⟩ := rfl
@[simp] theorem t54 : tf 54 tys = some ⟨0, 1, 8, [.nilFunc], [], 0, 0⟩ := rfl
@[simp] theorem t55 : tf 55 tys = some ⟨0, 1, 8, [.nilFunc], [], 0, 0⟩ := rfl
@[simp] theorem t56 : tf 56 tys = some ⟨8, 1, 4, [.int .u32 0], [], 6, 0⟩ := rfl
@[simp] theorem t57 : tf 57 tys = some ⟨1, 3, 24, [.int .i64 0, .int .i64 0, .int .u32 0], [(0, 1, false), (1, 1, false), (2, 1, false)], 0, 0⟩ := rfl
@[simp] theorem t58 : tf 58 tys = some ⟨1, 3, 24, [.int .i64 0, .int .i64 0, .int .u32 0], [(0, 1, false), (1, 1, false), (2, 1, false)], 0, 0⟩ := rfl
@[simp] theorem t59 : tf 59 tys = some ⟨3, 1, 24, [.slice none 0 0], [], 58, 0⟩ := rfl
@[simp] theorem t60 : tf 60 tys = some ⟨0, 1, 8, [.nilFunc], [], 0, 0⟩ := rfl
@[simp] theorem t61 : tf 61 tys = some ⟨0, 1, 8, [.nilFunc], [], 0, 0⟩ := rfl
@[simp] theorem t62 : tf 62 tys = some ⟨1, 4, 32, [.int .i64 0, .int .i64 0, .int .i64 0, .bool false], [(0, 1, false), (1, 1, false), (2, 1, false), (3, 1, false)], 0, 0⟩ := rfl
@[simp] theorem t63 : tf 63 tys = some ⟨1, 4, 32, [.int .i64 0, .int .i64 0, .int .i64 0, .bool false], [(0, 1, false), (1, 1, false), (2, 1, false), (3, 1, false)], 0, 0⟩ := rfl
@[simp] theorem t64 : tf 64 tys = some ⟨3, 1, 24, [.slice none 0 0], [], 63, 0⟩ := rfl
@[simp] theorem t65 : tf 65 tys = some ⟨0, 1, 8, [.nilFunc], [], 0, 0⟩ := rfl
@[simp] theorem t66 : tf 66 tys = some ⟨0, 1, 8, [.nilFunc], [], 0, 0⟩ := rfl
@[simp] theorem t67 : tf 67 tys = some ⟨0, 1, 8, [.nilFunc], [], 0, 0⟩ := rfl
@[simp] theorem t69 : tf 69 tys = some ⟨0, 1, 8, [.nilFunc], [], 0, 0⟩ := rfl
@[simp] theorem t71 : tf 71 tys = some ⟨0, 1, 8, [.nilFunc], [], 0, 0⟩ := rfl
@[simp] theorem t72 : tf 72 tys = some ⟨0, 1, 8, [.nilFunc], [], 0, 0⟩ := rfl
@[simp] theorem t73 : tf 73 tys = some ⟨0, 1, 8, [.nilFunc], [], 0, 0⟩ := rfl
@[simp] theorem t74 : tf 74 tys = some ⟨0, 1, 8, [.nilFunc], [], 0, 0⟩ := rfl
@[simp] theorem t75 : tf 75 tys = some ⟨3, 1, 24, [.slice none 0 0], [], 5, 0⟩ := rfl
@[simp] theorem t76 : tf 76 tys = some ⟨0, 1, 8, [.nilFunc], [], 0, 0⟩ := rfl
@[simp] theorem t77 : tf 77 tys = some ⟨5, 1, 8, [.map none], [], 0, 0⟩ := rfl
@[simp] theorem t78 : tf 78 tys = some ⟨1, 8, 80, [.int .i64 0, .int .i64 0, .int .i64 0, .int .i64 0, .int .i64 0, .pointer none, .slice none 0 0, .map none], [(0, 5, true), (5, 1, false), (6, 1, false), (7, 1, false)], 0, 0⟩ := rfl
@[simp] theorem t79 : tf 79 tys = some ⟨1, 8, 80, [.int .i64 0, .int .i64 0, .int .i64 0, .int .i64 0, .int .i64 0, .pointer none, .slice none 0 0, .map none], [(0, 5, true), (5, 1, false), (6, 1, false), (7, 1, false)], 0, 0⟩ := rfl
@[simp] theorem t80 : tf 80 tys = some ⟨5, 1, 8, [.map none], [], 0, 0⟩ := rfl
@[simp] theorem t81 : tf 81 tys = some ⟨1, 5, 32, [.int .i64 0, .int .u8 0, .bool false, .map none, .int .i64 0], [(0, 1, false), (1, 1, false), (2, 1, false), (3, 1, false), (4, 1, false)], 0, 0⟩ := rfl
@[simp] theorem t82 : tf 82 tys = some ⟨1, 5, 32, [.int .i64 0, .int .u8 0, .bool false, .map none, .int .i64 0], [(0, 1, false), (1, 1, false), (2, 1, false), (3, 1, false), (4, 1, false)], 0, 0⟩ := rfl
@[simp] theorem t83 : tf 83 tys = some ⟨0, 1, 8, [.nilFunc], [], 0, 0⟩ := rfl
@[simp] theorem t84 : tf 84 tys = some ⟨1, 8, 96, [.pointer none, .int .i64 0, .int .i64 0, .int .i64 0, .int .i64 0, .slice none 0 0, .slice none 0 0, .bool false], [(0, 1, false), (1, 1, false), (2, 1, false), (3, 1, false), (4, 3, true), (7, 1, false)], 0, 0⟩ := rfl
@[simp] theorem t85 : tf 85 tys = some ⟨1, 8, 96, [.pointer none, .int .i64 0, .int .i64 0, .int .i64 0, .int .i64 0, .slice none 0 0, .slice none 0 0, .bool false], [(0, 1, false), (1, 1, false), (2, 1, false), (3, 1, false), (4, 3, true), (7, 1, false)], 0, 0⟩ := rfl
@[simp] theorem t86 : tf 86 tys = some ⟨0, 1, 8, [.nilFunc], [], 0, 0⟩ := rfl
@[simp] theorem t87 : tf 87 tys = some ⟨0, 1, 8, [.nilFunc], [], 0, 0⟩ := rfl
@[simp] theorem t88 : tf 88 tys = some ⟨0, 1, 8, [.nilFunc], [], 0, 0⟩ := rfl
@[simp] theorem t89 : tf 89 tys = some ⟨1, 3, 24, [.int .i64 0, .int .i64 0, .int .i64 0], [(0, 1, false), (1, 1, false), (2, 1, false)], 0, 0⟩ := rfl
@[simp] theorem t90 : tf 90 tys = some ⟨1, 3, 24, [.int .i64 0, .int .i64 0, .int .i64 0], [(0, 1, false), (1, 1, false), (2, 1, false)], 0, 0⟩ := rfl
@[simp] theorem t91 : tf 91 tys = some ⟨0, 1, 8, [.nilFunc], [], 0, 0⟩ := rfl
@[simp] theorem t92 : tf 92 tys = some ⟨0, 1, 8, [.nilFunc], [], 0, 0⟩ := rfl
@[simp] theorem t93 : tf 93 tys = some ⟨0, 1, 8, [.nilFunc], [], 0, 0⟩ := rfl
@[simp] theorem t94 : tf 94 tys = some ⟨0, 1, 8, [.nilFunc], [], 0, 0⟩ := rfl
@[simp] theorem t95 : tf 95 tys = some ⟨0, 1, 8, [.nilFunc], [], 0, 0⟩ := rfl
@[simp] theorem t96 : tf 96 tys = some ⟨0, 1, 8, [.nilFunc], [], 0, 0⟩ := rfl
@[simp] theorem t97 : tf 97 tys = some ⟨0, 1, 8, [.nilFunc], [], 0, 0⟩ := rfl
@[simp] theorem t98 : tf 98 tys = some ⟨0, 1, 8, [.nilFunc], [], 0, 0⟩ := rfl
@[simp] theorem t99 : tf 99 tys = some ⟨1, 4, 48, [.int .i64 0, .string ⟨#[]⟩, .string ⟨#[]⟩, .int .i64 0], [(0, 1, false), (1, 1, false), (2, 1, false), (3, 1, false)], 0, 0⟩ := rfl
@[simp] theorem t100 : tf 100 tys = some ⟨1, 4, 48, [.int .i64 0, .string ⟨#[]⟩, .string ⟨#[]⟩, .int .i64 0], [(0, 1, false), (1, 1, false), (2, 1, false), (3, 1, false)], 0, 0⟩ := rfl
@[simp] theorem t101 : tf 101 tys = some ⟨1, 3, 24, [.int .i64 0, .int .i64 0, .int .i64 0], [(0, 1, false), (1, 1, false), (2, 1, false)], 0, 0⟩ := rfl
@[simp] theorem t102 : tf 102 tys = some ⟨1, 3, 24, [.int .i64 0, .int .i64 0, .int .i64 0], [(0, 1, false), (1, 1, false), (2, 1, false)], 0, 0⟩ := rfl
@[simp] theorem t103 : tf 103 tys = some ⟨0, 1, 8, [.nilFunc], [], 0, 0⟩ := rfl
@[simp] theorem t105 : tf 105 tys = some ⟨0, 1, 8, [.nilFunc], [], 0, 0⟩ := rfl
@[simp] theorem t106 : tf 106 tys = some ⟨0, 1, 8, [.nilFunc], [], 0, 0⟩ := rfl
@[simp] theorem t107 : tf 107 tys = some ⟨0, 1, 8, [.nilFunc], [], 0, 0⟩ := rfl
@[simp] theorem t108 : tf 108 tys = some ⟨0, 1, 8, [.nilFunc], [], 0, 0⟩ := rfl
@[simp] theorem t109 : tf 109 tys = some ⟨5, 1, 8, [.map none], [], 0, 0⟩ := rfl
@[simp] theorem t110 : tf 110 tys = some ⟨0, 1, 8, [.nilFunc], [], 0, 0⟩ := rfl
@[simp] theorem t111 : tf 111 tys = some ⟨0, 1, 8, [.nilFunc], [], 0, 0⟩ := rfl
@[simp] theorem t112 : tf 112 tys = some ⟨1, 1, 8, [.int .i64 0], [(0, 1, false)], 0, 0⟩ := rfl
@[simp] theorem t113 : tf 113 tys = some ⟨1, 1, 8, [.int .i64 0], [(0, 1, false)], 0, 0⟩ := rfl
@[simp] theorem t114 : tf 114 tys = some ⟨0, 1, 8, [.nilFunc], [], 0, 0⟩ := rfl
@[simp] theorem t116 : tf 116 tys = some ⟨0, 1, 8, [.nilFunc], [], 0, 0⟩ := rfl
@[simp] theorem t117 : tf 117 tys = some ⟨0, 1, 8, [.nilFunc], [], 0, 0⟩ := rfl
@[simp] theorem t118 : tf 118 tys = some ⟨0, 1, 8, [.nilFunc], [], 0, 0⟩ := rfl
@[simp] theorem t119 : tf 119 tys = some ⟨0, 1, 8, [.nilFunc], [], 0, 0⟩ := rfl
@[simp] theorem t120 : tf 120 tys = some ⟨0, 1, 8, [.nilFunc], [], 0, 0⟩ := rfl
@[simp] theorem t121 : tf 121 tys = some ⟨0, 1, 8, [.nilFunc], [], 0, 0⟩ := rfl
@[simp] theorem t123 : tf 123 tys = some ⟨0, 1, 8, [.nilFunc], [], 0, 0⟩ := rfl
@[simp] theorem t124 : tf 124 tys = some ⟨0, 1, 8, [.nilFunc], [], 0, 0⟩ := rfl
@[simp] theorem t125 : tf 125 tys = some ⟨0, 1, 8, [.nilFunc], [], 0, 0⟩ := rfl
@[simp] theorem t126 : tf 126 tys = some ⟨0, 1, 8, [.nilFunc], [], 0, 0⟩ := rfl
@[simp] theorem t128 : tf 128 tys = some ⟨0, 1, 8, [.nilFunc], [], 0, 0⟩ := rfl
@[simp] theorem t129 : tf 129 tys = some ⟨0, 1, 8, [.nilFunc], [], 0, 0⟩ := rfl
@[simp] theorem t130 : tf 130 tys = some ⟨0, 1, 8, [.nilFunc], [], 0, 0⟩ := rfl
@[simp] theorem t131 : tf 131 tys = some ⟨0, 1, 8, [.nilFunc], [], 0, 0⟩ := rfl
@[simp] theorem t132 : tf 132 tys = some ⟨8, 1, 8, [.int .u64 0], [], 7, 0⟩ := rfl
@[simp] theorem t133 : tf 133 tys = some ⟨0, 1, 8, [.nilFunc], [], 0, 0⟩ := rfl
@[simp] theorem t134 : tf 134 tys = some ⟨0, 1, 8, [.nilFunc], [], 0, 0⟩ := rfl
@[simp] theorem t135 : tf 135 tys = some ⟨0, 1, 8, [.nilFunc], [], 0, 0⟩ := rfl
@[simp] theorem t136 : tf 136 tys = some ⟨0, 1, 8, [.nilFunc], [], 0, 0⟩ := rfl
@[simp] theorem t137 : tf 137 tys = some ⟨0, 1, 8, [.nilFunc], [], 0, 0⟩ := rfl
@[simp] theorem t138 : tf 138 tys = some ⟨0, 1, 8, [.nilFunc], [], 0, 0⟩ := rfl
@[simp] theorem t139 : tf 139 tys = some ⟨0, 1, 8, [.nilFunc], [], 0, 0⟩ := rfl
@[simp] theorem t140 : tf 140 tys = some ⟨0, 1, 8, [.nilFunc], [], 0, 0⟩ := rfl
@[simp] theorem t142 : tf 142 tys = some ⟨0, 1, 8, [.nilFunc], [], 0, 0⟩ := rfl
@[simp] theorem t144 : tf 144 tys = some ⟨0, 1, 8, [.nilFunc], [], 0, 0⟩ := rfl
@[simp] theorem t145 : tf 145 tys = some ⟨0, 1, 8, [.nilFunc], [], 0, 0⟩ := rfl
@[simp] theorem t146 : tf 146 tys = some ⟨0, 1, 8, [.nilFunc], [], 0, 0⟩ := rfl
@[simp] theorem t147 : tf 147 tys = some ⟨0, 1, 8, [.nilFunc], [], 0, 0⟩ := rfl
@[simp] theorem t148 : tf 148 tys = some ⟨3, 1, 24, [.slice none 0 0], [], 9, 0⟩ := rfl
@[simp] theorem t150 : tf 150 tys = some ⟨0, 1, 8, [.nilFunc], [], 0, 0⟩ := rfl
@[simp] theorem t151 : tf 151 tys = some ⟨0, 1, 8, [.nilFunc], [], 0, 0⟩ := rfl
@[simp] theorem t152 : tf 152 tys = some ⟨0, 1, 8, [.nilFunc], [], 0, 0⟩ := rfl
@[simp] theorem t153 : tf 153 tys = some ⟨0, 1, 8, [.nilFunc], [], 0, 0⟩ := rfl
@[simp] theorem t154 : tf 154 tys = some ⟨0, 1, 8, [.nilFunc], [], 0, 0⟩ := rfl
@[simp] theorem t155 : tf 155 tys = some ⟨0, 1, 8, [.nilFunc], [], 0, 0⟩ := rfl
@[simp] theorem t157 : tf 157 tys = some ⟨0, 1, 8, [.nilFunc], [], 0, 0⟩ := rfl
@[simp] theorem t159 : tf 159 tys = some ⟨0, 1, 8, [.nilFunc], [], 0, 0⟩ := rfl
@[simp] theorem t161 : tf 161 tys = some ⟨0, 1, 8, [.nilFunc], [], 0, 0⟩ := rfl
@[simp] theorem t162 : tf 162 tys = some ⟨0, 1, 8, [.nilFunc], [], 0, 0⟩ := rfl
@[simp] theorem t163 : tf 163 tys = some ⟨2, 1, 8, [.int .i64 0], [], 3, 1⟩ := rfl
@[simp] theorem t164 : tf 164 tys = some ⟨0, 1, 8, [.nilFunc], [], 0, 0⟩ := rfl
@[simp] theorem t165 : tf 165 tys = some ⟨2, 4, 32, [.int .i64 0, .int .i64 0, .int .i64 0, .int .i64 0], [], 3, 4⟩ := rfl
@[simp] theorem t166 : tf 166 tys = some ⟨0, 1, 8, [.nilFunc], [], 0, 0⟩ := rfl
@[simp] theorem t167 : tf 167 tys = some ⟨0, 1, 8, [.nilFunc], [], 0, 0⟩ := rfl
@[simp] theorem t168 : tf 168 tys = some ⟨0, 1, 8, [.nilFunc], [], 0, 0⟩ := rfl
@[simp] theorem t169 : tf 169 tys = some ⟨0, 1, 8, [.nilFunc], [], 0, 0⟩ := rfl
@[simp] theorem t170 : tf 170 tys = some ⟨0, 1, 8, [.nilFunc], [], 0, 0⟩ := rfl
@[simp] theorem t171 : tf 171 tys = some ⟨1, 2, 24, [.string ⟨#[]⟩, .int .i64 0], [(0, 1, false), (1, 1, false)], 0, 0⟩ := rfl
@[simp] theorem t172 : tf 172 tys = some ⟨1, 2, 24, [.string ⟨#[]⟩, .int .i64 0], [(0, 1, false), (1, 1, false)], 0, 0⟩ := rfl
@[simp] theorem t173 : tf 173 tys = some ⟨0, 1, 8, [.nilFunc], [], 0, 0⟩ := rfl
@[simp] theorem t174 : tf 174 tys = some ⟨0, 1, 8, [.nilFunc], [], 0, 0⟩ := rfl
@[simp] theorem t175 : tf 175 tys = some ⟨0, 1, 8, [.nilFunc], [], 0, 0⟩ := rfl
@[simp] theorem t176 : tf 176 tys = some ⟨0, 1, 8, [.nilFunc], [], 0, 0⟩ := rfl
@[simp] theorem t177 : tf 177 tys = some ⟨0, 1, 8, [.nilFunc], [], 0, 0⟩ := rfl
@[simp] theorem t178 : tf 178 tys = some ⟨0, 1, 8, [.nilFunc], [], 0, 0⟩ := rfl
@[simp] theorem t179 : tf 179 tys = some ⟨0, 1, 8, [.nilFunc], [], 0, 0⟩ := rfl
@[simp] theorem t181 : tf 181 tys = some ⟨0, 1, 8, [.nilFunc], [], 0, 0⟩ := rfl
@[simp] theorem t182 : tf 182 tys = some ⟨0, 1, 8, [.nilFunc], [], 0, 0⟩ := rfl
@[simp] theorem t184 : tf 184 tys = some ⟨0, 1, 8, [.nilFunc], [], 0, 0⟩ := rfl
@[simp] theorem t185 : tf 185 tys = some ⟨0, 1, 8, [.nilFunc], [], 0, 0⟩ := rfl
@[simp] theorem t187 : tf 187 tys = some ⟨0, 1, 8, [.nilFunc], [], 0, 0⟩ := rfl
@[simp] theorem t188 : tf 188 tys = some ⟨0, 1, 8, [.nilFunc], [], 0, 0⟩ := rfl
@[simp] theorem t190 : tf 190 tys = some ⟨0, 1, 8, [.nilFunc], [], 0, 0⟩ := rfl
@[simp] theorem t191 : tf 191 tys = some ⟨0, 1, 8, [.nilFunc], [], 0, 0⟩ := rfl
@[simp] theorem t192 : tf 192 tys = some ⟨0, 1, 8, [.nilFunc], [], 0, 0⟩ := rfl
@[simp] theorem t193 : tf 193 tys = some ⟨0, 1, 8, [.nilFunc], [], 0, 0⟩ := rfl
@[simp] theorem t194 : tf 194 tys = some ⟨0, 1, 8, [.nilFunc], [], 0, 0⟩ := rfl
@[simp] theorem t195 : tf 195 tys = some ⟨6, 1, 8, [.pointer none], [], 197, 0⟩ := rfl
@[simp] theorem t196 : tf 196 tys = some ⟨1, 6, 96, [.int .i64 0, .slice none 0 0, .slice none 0 0, .slice none 0 0, .int .i64 0, .int .i64 0], [(0, 3, true), (3, 1, false), (4, 1, false), (5, 1, false)], 0, 0⟩ := rfl
@[simp] theorem t197 : tf 197 tys = some ⟨1, 6, 96, [.int .i64 0, .slice none 0 0, .slice none 0 0, .slice none 0 0, .int .i64 0, .int .i64 0], [(0, 3, true), (3, 1, false), (4, 1, false), (5, 1, false)], 0, 0⟩ := rfl
@[simp] theorem t198 : tf 198 tys = some ⟨0, 1, 8, [.nilFunc], [], 0, 0⟩ := rfl
@[simp] theorem t199 : tf 199 tys = some ⟨0, 1, 8, [.nilFunc], [], 0, 0⟩ := rfl
@[simp] theorem t200 : tf 200 tys = some ⟨0, 1, 8, [.nilFunc], [], 0, 0⟩ := rfl
@[simp] theorem t201 : tf 201 tys = some ⟨3, 1, 24, [.slice none 0 0], [], 75, 0⟩ := rfl
@[simp] theorem t202 : tf 202 tys = some ⟨0, 1, 8, [.nilFunc], [], 0, 0⟩ := rfl
@[simp] theorem t203 : tf 203 tys = some ⟨0, 1, 8, [.nilFunc], [], 0, 0⟩ := rfl
@[simp] theorem t204 : tf 204 tys = some ⟨0, 1, 8, [.nilFunc], [], 0, 0⟩ := rfl
@[simp] theorem t205 : tf 205 tys = some ⟨0, 1, 8, [.nilFunc], [], 0, 0⟩ := rfl
@[simp] theorem t206 : tf 206 tys = some ⟨0, 1, 8, [.nilFunc], [], 0, 0⟩ := rfl
@[simp] theorem t207 : tf 207 tys = some ⟨0, 1, 8, [.nilFunc], [], 0, 0⟩ := rfl
@[simp] theorem t208 : tf 208 tys = some ⟨8, 1, 8, [.int .i64 0], [], 3, 0⟩ := rfl
@[simp] theorem t210 : tf 210 tys = some ⟨0, 1, 8, [.nilFunc], [], 0, 0⟩ := rfl
@[simp] theorem t211 : tf 211 tys = some ⟨0, 1, 8, [.nilFunc], [], 0, 0⟩ := rfl
@[simp] theorem t212 : tf 212 tys = some ⟨0, 1, 8, [.nilFunc], [], 0, 0⟩ := rfl
@[simp] theorem t213 : tf 213 tys = some ⟨0, 1, 8, [.nilFunc], [], 0, 0⟩ := rfl
@[simp] theorem t214 : tf 214 tys = some ⟨0, 1, 8, [.nilFunc], [], 0, 0⟩ := rfl
@[simp] theorem t215 : tf 215 tys = some ⟨0, 1, 8, [.nilFunc], [], 0, 0⟩ := rfl
@[simp] theorem t216 : tf 216 tys = some ⟨0, 1, 8, [.nilFunc], [], 0, 0⟩ := rfl
@[simp] theorem t217 : tf 217 tys = some ⟨8, 1, 8, [.int .u64 0], [], 7, 0⟩ := rfl
@[simp] theorem t218 : tf 218 tys = some ⟨0, 1, 8, [.nilFunc], [], 0, 0⟩ := rfl
@[simp] theorem t219 : tf 219 tys = some ⟨0, 1, 8, [.nilFunc], [], 0, 0⟩ := rfl
@[simp] theorem t220 : tf 220 tys = some ⟨0, 1, 8, [.nilFunc], [], 0, 0⟩ := rfl
@[simp] theorem t221 : tf 221 tys = some ⟨6, 1, 8, [.pointer none], [], 3, 0⟩ := rfl
@[simp] theorem t222 : tf 222 tys = some ⟨0, 1, 8, [.nilFunc], [], 0, 0⟩ := rfl
@[simp] theorem t223 : tf 223 tys = some ⟨0, 1, 8, [.nilFunc], [], 0, 0⟩ := rfl
@[simp] theorem t224 : tf 224 tys = some ⟨6, 1, 8, [.pointer none], [], 217, 0⟩ := rfl
@[simp] theorem t226 : tf 226 tys = some ⟨0, 1, 8, [.nilFunc], [], 0, 0⟩ := rfl
@[simp] theorem t227 : tf 227 tys = some ⟨0, 1, 8, [.nilFunc], [], 0, 0⟩ := rfl
@[simp] theorem t228 : tf 228 tys = some ⟨1, 4, 40, [.pointer none, .pointer none, .pointer none, .string ⟨#[]⟩], [(0, 1, false), (1, 1, false), (2, 1, false), (3, 1, false)], 0, 0⟩ := rfl
@[simp] theorem t229 : tf 229 tys = some ⟨1, 4, 40, [.pointer none, .pointer none, .pointer none, .string ⟨#[]⟩], [(0, 1, false), (1, 1, false), (2, 1, false), (3, 1, false)], 0, 0⟩ := rfl
@[simp] theorem t230 : tf 230 tys = some ⟨2, 0, 0, [], [], 16, 0⟩ := rfl
@[simp] theorem t231 : tf 231 tys = some ⟨1, 0, 0, [], [(0, 0, true)], 0, 0⟩ := rfl
@[simp] theorem t232 : tf 232 tys = some ⟨1, 0, 0, [], [(0, 0, true)], 0, 0⟩ := rfl
@[simp] theorem t233 : tf 233 tys = some ⟨8, 1, 1, [.int .u8 0], [], 4, 0⟩ := rfl
@[simp] theorem t234 : tf 234 tys = some ⟨8, 1, 1, [.int .u8 0], [], 4, 0⟩ := rfl
@[simp] theorem t235 : tf 235 tys = some ⟨0, 1, 8, [.nilFunc], [], 0, 0⟩ := rfl
@[simp] theorem t236 : tf 236 tys = some ⟨6, 1, 8, [.pointer none], [], 5, 0⟩ := rfl
@[simp] theorem t237 : tf 237 tys = some ⟨8, 1, 4, [.int .i32 0], [], 2, 0⟩ := rfl
@[simp] theorem t238 : tf 238 tys = some ⟨8, 1, 4, [.int .i32 0], [], 2, 0⟩ := rfl
@[simp] theorem t239 : tf 239 tys = some ⟨1, 11, 48, [.int .u64 0, .int .u64 0, .int .u32 0, .int .u8 0, .int .u8 0, .int .u8 0, .int .u8 0, .nilFunc, .pointer none, .int .i32 0, .int .i32 0], [(0, 1, false), (1, 1, false), (2, 1, false), (3, 1, false), (4, 1, false), (5, 1, false), (6, 1, false), (7, 1, false), (8, 1, false), (9, 1, false), (10, 1, false)], 0, 0⟩ := rfl
@[simp] theorem t240 : tf 240 tys = some ⟨1, 11, 48, [.int .u64 0, .int .u64 0, .int .u32 0, .int .u8 0, .int .u8 0, .int .u8 0, .int .u8 0, .nilFunc, .pointer none, .int .i32 0, .int .i32 0], [(0, 1, false), (1, 1, false), (2, 1, false), (3, 1, false), (4, 1, false), (5, 1, false), (6, 1, false), (7, 1, false), (8, 1, false), (9, 1, false), (10, 1, false)], 0, 0⟩ := rfl
@[simp] theorem t241 : tf 241 tys = some ⟨1, 1, 8, [.int .i64 0], [(0, 1, false)], 0, 0⟩ := rfl
@[simp] theorem t242 : tf 242 tys = some ⟨1, 1, 8, [.int .i64 0], [(0, 1, false)], 0, 0⟩ := rfl
end Go.Proofs.Ytbbaoeidobdblaa.Sx

/- Sx, part 9: what is lent, and handed back; function values; slices that are made; texts as bytes. -/
set_option linter.unusedVariables false
set_option linter.unusedSimpArgs false
namespace Go.Proofs.Ytbbaoeidobdblaa.Sx
open Go
/-- The same values. -/
def Res.eqv : Res → Res → Prop
  | .box g T cs, .box g' T' cs' => g = g' ∧ T = T' ∧ cs.map CV.val = cs'.map CV.val
  | .row a n c T sz cs, .row a' n' c' T' sz' cs' => a = a' ∧ n = n' ∧ c = c' ∧ T = T' ∧ sz = sz' ∧ cs.map CV.val = cs'.map CV.val
  | .usr A, .usr A' => A = A'
  | _, _ => False
theorem Res.eqv.to {r r' : Res} (h : r.eqv r') {S : Nat → Prop} {w : World} (k : r.holds S w) : r'.holds S w := by
  cases r <;> cases r' <;> simp only [Res.eqv] at h
  · obtain ⟨rfl, rfl, h⟩ := h
    simpa only [Res.holds, h] using k
  · obtain ⟨rfl, rfl, rfl, rfl, rfl, h⟩ := h
    simpa only [Res.holds, h] using k
  · subst h
    exact k
theorem Res.holds.same {r : Res} {S S' : Nat → Prop} {w : World} (k : r.holds S w) (h : ∀ b, S' b ↔ S b) : r.holds S' w := by
  have : S' = S := funext fun b => propext (h b)
  rw [this]
  exact k
/-- Some things of one's own, each on blocks that no other is on; S are all of these. -/
def Owns (rs : List Res) (S : Nat → Prop) (w : World) : Prop := ∃ F : Nat → Nat → Prop, (∀ i (r : Res), rs[i]? = some r → r.holds (F i) w) ∧ (∀ i j b, i < rs.length → j < rs.length → i ≠ j → F i b → ¬ F j b) ∧ ∀ b, S b ↔ ∃ i, i < rs.length ∧ F i b
/-- The contract of a function that is lent things, and hands things back. -/
abbrev FnS (P : Program) (f : FuncId) (args : Array Value) (w : World) (I S : Nat → Prop) {α : Type} (enc : α → Value) (rs : α → List Res) (R : α → World → Prop) : Prop := Fits P f args w I S enc (fun x => Owns (rs x)) R
def num : Nat → List Res → List (Nat × Res)
  | _, [] => []
  | j, r :: l => (j, r) :: num (j + 1) l
theorem num_mem {p : Nat × Res} : ∀ {l : List Res} {j : Nat}, p ∈ num j l → ∃ i, l[i]? = some p.2 ∧ p.1 = j + i
  | [], j, h => by cases h
  | r :: l, j, h => by
    rcases List.mem_cons.1 h with rfl | h
    · exact ⟨0, rfl, rfl⟩
    · obtain ⟨i, h1, h2⟩ := num_mem h
      exact ⟨i + 1, by simpa using h1, by omega⟩
theorem enterS {P : Program} {f : FuncId} {fn : Func} {c : Code} {T : Ty} {res : List ResultVar} {n : Nat} {svs : List SV} {w : World} {I S : Nat → Prop} {α : Type} {enc : α → Value} {B : α → (Nat → Prop) → World → Prop} {R : α → World → Prop} (hT : TyOk P T) (hf : P.funcs[f]? = some fn) (hb : fn.body = some c) (hn : fn.ntmps = n) (hr : fn.results = res.toArray) (hc : callB P f = true)
    (hl : svs.length ≤ n) (hI : ∀ b, I b → b < w.heap.size) (lent : List Res) (hS : Owns lent S w) (hSI : ∀ b, S b → b < w.heap.size ∧ ¬ I b) (G : World → Prop) (hG : ∀ W, Ext I w W → G W)
    (h : ∀ C : Ctx, C = ⟨P, f, fn, n, w, I, S, α, enc, B, R⟩ → C.n = n → Okc P T C res → sx T C res 1000 (.todo [.code c]) (argsT 0 svs) ⟨fun _ => True, G, num 1000 lent⟩) : Fits P f (svs.map SV.val).toArray w I S enc B R := by
  obtain ⟨F, h1, h2, h3⟩ := hS
  refine enterJ hT hf hb hn hr hc hl ⟨I, fun k => F (k - 1000), Ext.refl _ _, hI, fun _ h => h, fun _ h _ => h, ?_, ?_, ?_, ?_, fun _ _ => trivial, hG⟩ h
  · intro p hp
    obtain ⟨i, k1, k2⟩ := num_mem hp
    rw [k2, Nat.add_sub_cancel_left]
    exact h1 i _ k1
  · intro p b hp hb
    obtain ⟨i, k1, k2⟩ := num_mem hp
    have hs : S b := (h3 b).2 ⟨p.1 - 1000, by have := (List.getElem?_eq_some_iff.1 k1).1; omega, hb⟩
    exact ⟨(hSI b hs).1, (hSI b hs).2, fun _ => hs⟩
  · intro p q b hp hq hne hb
    obtain ⟨i, k1, k2⟩ := num_mem hp
    obtain ⟨j, k3, k4⟩ := num_mem hq
    have e1 := (List.getElem?_eq_some_iff.1 k1).1
    have e2 := (List.getElem?_eq_some_iff.1 k3).1
    exact h2 _ _ b (by omega) (by omega) (by omega) hb
  · intro p b hp hlt
    obtain ⟨i, k1, k2⟩ := num_mem hp
    omega
/-- Things of one's own, by their numbers, are these. -/
def give (m : List (Nat × Res)) : List Nat → List Res → Prop
  | [], [] => True
  | k :: ks, r :: rs => (match look k m with | some q => q.eqv r | none => False) ∧ memN k ks = false ∧ give m ks rs
  | _, _ => False
theorem memN_mem {k : Nat} : ∀ {ks : List Nat}, memN k ks = true ↔ k ∈ ks
  | [] => by simp [memN]
  | j :: r => by
    simp only [memN, List.mem_cons]
    split
    · rename_i e; simp [e]
    · rename_i e; simp [e, memN_mem]
theorem give_get {m : List (Nat × Res)} : ∀ {ks : List Nat} {rs : List Res}, give m ks rs → ks.length = rs.length ∧ ks.Nodup ∧ ∀ (i : Nat) (r : Res), rs[i]? = some r → ∃ q, look (ks.getD i 0) m = some q ∧ q.eqv r
  | [], [], _ => ⟨rfl, List.nodup_nil, fun i r h => by simp at h⟩
  | k :: ks, r :: rs, ⟨h1, h2, h3⟩ => by
    obtain ⟨k1, k2, k3⟩ := give_get h3
    refine ⟨by simp [k1], List.nodup_cons.2 ⟨fun hm => ?_, k2⟩, fun i q h => ?_⟩
    · rw [memN_mem.2 hm] at h2
      cases h2
    · cases i with
      | zero =>
        simp only [List.getElem?_cons_zero, Option.some.injEq] at h
        subst h
        split at h1
        · rename_i q hq
          exact ⟨q, by simpa using hq, h1⟩
        · exact h1.elim
      | succ i =>
        simp only [List.getElem?_cons_succ] at h
        simpa using k3 i q h
  | [], _ :: _, h => h.elim
  | _ :: _, [], h => h.elim
theorem give_S {m : List (Nat × Res)} {ks : List Nat} {rs : List Res} (h : give m ks rs) {F : Nat → Nat → Prop} {w : World} (own : ∀ p, p ∈ m → p.2.holds (F p.1) w) (disj : ∀ p q b, p ∈ m → q ∈ m → p.1 ≠ q.1 → F p.1 b → ¬ F q.1 b) : Owns rs (fun b => ∃ k, k ∈ ks ∧ F k b) w ∧ ∀ k, k ∈ ks → ∃ r, (k, r) ∈ m := by
  obtain ⟨h1, h2, h3⟩ := give_get h
  have hg : ∀ i, i < ks.length → ∃ r, (ks.getD i 0, r) ∈ m := fun i hi => by
    obtain ⟨q, hq, _⟩ := h3 i rs[i] (List.getElem?_eq_getElem (by omega))
    exact ⟨q, look_mem hq⟩
  have hd : ∀ i, (hi : i < ks.length) → ks.getD i 0 = ks[i] := fun i hi => by simp [hi]
  refine ⟨⟨fun i => F (ks.getD i 0), fun i r hr => ?_, fun i j b hi hj hne hb hb' => ?_, fun b => ⟨?_, ?_⟩⟩, ?_⟩
  · obtain ⟨q, hq, he⟩ := h3 i r hr
    exact he.to (own _ (look_mem hq))
  · obtain ⟨r1, m1⟩ := hg i (by omega)
    obtain ⟨r2, m2⟩ := hg j (by omega)
    refine disj _ _ b m1 m2 (fun e => hne ?_) hb hb'
    simp only [hd i (by omega), hd j (by omega)] at e
    exact (List.getElem_inj h2).1 e
  · rintro ⟨k, hk, hb⟩
    obtain ⟨i, hi, rfl⟩ := List.getElem_of_mem hk
    exact ⟨i, by omega, by show F (ks.getD i 0) b; rw [hd i hi]; exact hb⟩
  · rintro ⟨i, hi, hb⟩
    exact ⟨_, by rw [hd i (by omega)]; exact List.getElem_mem _, hb⟩
  · intro k hk
    obtain ⟨i, hi, rfl⟩ := List.getElem_of_mem hk
    obtain ⟨r, hr⟩ := hg i hi
    rw [hd i hi] at hr
    exact ⟨r, hr⟩
def rest (ks : List Nat) : List (Nat × Res) → List (Nat × Res)
  | [] => []
  | (k, r) :: t => match memN k ks || Nat.ble 1000 k with | true => rest ks t | false => (k, r) :: rest ks t
theorem rest_mem {ks : List Nat} {p : Nat × Res} : ∀ {l : List (Nat × Res)}, p ∈ rest ks l → p ∈ l ∧ p.1 ∉ ks ∧ p.1 < 1000
  | [], h => by cases h
  | (k, r) :: t, h => by
    simp only [rest] at h
    split at h
    · exact ⟨List.mem_cons_of_mem _ (rest_mem h).1, (rest_mem h).2⟩
    · rename_i hn
      rcases List.mem_cons.1 h with rfl | h
      · simp only [Bool.or_eq_false_iff] at hn
        refine ⟨List.mem_cons_self, fun hm => ?_, ?_⟩
        · rw [memN_mem.2 hm] at hn
          cases hn.1
        · have := hn.2
          rcases Nat.lt_or_ge k 1000 with h5 | h5
          · exact h5
          · rw [Nat.ble_eq_true_of_le h5] at this
            cases this
      · exact ⟨List.mem_cons_of_mem _ (rest_mem h).1, (rest_mem h).2⟩
def delL : List Nat → List (Nat × Res) → List (Nat × Res)
  | [], l => l
  | k :: ks, l => delL ks (del k l)
theorem delL_mem {p : Nat × Res} : ∀ {ks : List Nat} {l : List (Nat × Res)}, p ∈ delL ks l → p ∈ l ∧ p.1 ∉ ks
  | [], l, h => ⟨h, by simp⟩
  | k :: ks, l, h => by
    obtain ⟨h1, h2⟩ := delL_mem (ks := ks) h
    obtain ⟨h3, h4⟩ := mem_del h1
    exact ⟨h3, by simp [h2, h4]⟩
/-- What is handed back stands under these numbers. -/
def back : List (Nat × Res) → List Res → Prop
  | [], [] => True
  | (k, r) :: t, q :: l => q.eqv r ∧ memN k (t.map Prod.fst) = false ∧ back t l
  | _, _ => False
theorem back_get : ∀ {t : List (Nat × Res)} {l : List Res}, back t l → t.length = l.length ∧ (t.map Prod.fst).Nodup ∧ ∀ (i : Nat) (p : Nat × Res), t[i]? = some p → ∃ q : Res, l[i]? = some q ∧ q.eqv p.2
  | [], [], _ => ⟨rfl, List.nodup_nil, fun i r h => by simp at h⟩
  | (k, r) :: t, q :: l, ⟨h1, h2, h3⟩ => by
    obtain ⟨k1, k2, k3⟩ := back_get h3
    refine ⟨by simp [k1], List.nodup_cons.2 ⟨fun hm => ?_, k2⟩, fun i p h => ?_⟩
    · rw [memN_mem.2 hm] at h2
      cases h2
    · cases i with
      | zero =>
        simp only [List.getElem?_cons_zero, Option.some.injEq] at h
        subst h
        exact ⟨q, rfl, h1⟩
      | succ i =>
        simp only [List.getElem?_cons_succ] at h
        simpa using k3 i p h
  | [], _ :: _, h => h.elim
  | _ :: _, [], h => h.elim
section
variable {P : Program} {C : Ctx} {T : Ty} {res : List ResultVar} {p : Pos} {tm : Tm} {m : Mem}
theorem retS0 {v : Value} (rs : C.α → List Res) (hB : C.B = fun x => Owns (rs x)) (x : C.α) (hv : v = C.enc x) (ks : List Nat) (hg : give m.rs ks (rs x)) (h : ∀ W, pubs (rest ks m.rs) W → m.G W → C.R x W) : RetP C v m := by
  rintro w ⟨I, F, hi⟩
  obtain ⟨ho, hk⟩ := give_S hg hi.own hi.disj
  have hF : ∀ b, (∃ k, k ∈ ks ∧ F k b) → b < w.heap.size ∧ ¬ I b ∧ (b < C.w0.heap.size → C.S0 b) := fun b ⟨k, h1, h2⟩ => by
    obtain ⟨r, hr⟩ := hk k h1
    exact hi.Fsz _ b hr h2
  refine ⟨x, fun b => ∃ k, k ∈ ks ∧ F k b, by rw [hv], hi.grow, fun b hb => ⟨(hF b hb).1, fun h0 => (hF b hb).2.1 (hi.I0 b h0), (hF b hb).2.2⟩, by rw [hB]; exact ho, fun W e => h W (pubs_of fun q hq => ?_) (hi.know W (e.mono fun b hb => ⟨?_, fun hs => (hF b hs).2.1 hb⟩))⟩
  · obtain ⟨h1, h2, h3⟩ := rest_mem hq
    refine ((hi.own q h1).ext (e.mono fun b hb => ⟨.inr ⟨hi.new q b h1 h3 hb, (hi.Fsz q b h1 hb).1⟩, ?_⟩)).fact
    rintro ⟨k, h4, h5⟩
    obtain ⟨r, hr⟩ := hk k h4
    exact hi.disj q (k, r) b h1 hr (fun e => h2 (by rw [e]; exact h4)) hb h5
  · rcases Nat.lt_or_ge b C.w0.heap.size with h4 | h4
    · exact .inl (hi.Iold b hb h4)
    · exact .inr ⟨h4, hi.Isz b hb⟩
theorem retS {v : Value} {f : FuncId} {fn : Func} {n : Nat} {w : World} {I S : Nat → Prop} {α : Type} {enc : α → Value} {rs : α → List Res} {R : α → World → Prop} (hC : C = ⟨P, f, fn, n, w, I, S, α, enc, fun x => Owns (rs x), R⟩) (x : α) (ks : List Nat) (hv : v = enc x) (hg : give m.rs ks (rs x)) (h : ∀ W, pubs (rest ks m.rs) W → m.G W → R x W) : RetP C v m := by
  subst hC
  exact retS0 rs rfl x hv ks hg h
/-- A call of a function that is lent things (ks), and hands things back. -/
theorem callS (ok : Okc P T C res) {o : Oper} {fo : Operand} {args : Array Operand} {tys : Array TypeId} (ho : o.op = .call ⟨.value fo, args, tys⟩) {f : FuncId} {fi ca : Array Value} (hf : ev tm fo = some (.c (.v (.func (.func f) fi ca)))) {svs : List SV} (ha : evs tm args.toList = some svs) (ks : List Nat) (lent : List Res) (hg : give m.rs ks lent)
    {V : Array Value} (hV : fi ++ (svs.map SV.val).toArray ++ ca = V) {α : Type} {enc : α → Value} {rs : α → List Res} {R : α → World → Prop} (bk : α → List (Nat × Res))
    (spec : ∀ w I S, (∀ b, I b → b < w.heap.size) → (∀ W, Ext I w W → m.G W) → Owns lent S w → (∀ b, S b → b < w.heap.size ∧ ¬ I b) → FnS P f V w I S enc rs R)
    (hbk : ∀ x, back (bk x) (rs x)) (hks : (∀ k, k ∈ ks → k < 1000) ∨ ∀ x q, q ∈ bk x → 1000 ≤ q.1)
    (k : ∀ x W, R x W → sx T C res 1000 p (put C.n o.dst (.c (nv (enc x))) tm) ⟨m.B, fun W => R x W ∧ m.G W, bk x ++ delL ((bk x).map Prod.fst) (delL ks m.rs)⟩) : At C (.op o p) tm m := by
  obtain rfl := ok.P
  rintro a w cs hR ⟨I, F, hi⟩
  obtain ⟨hown, hkm⟩ := give_S hg hi.own hi.disj
  have hF : ∀ b, (∃ k, k ∈ ks ∧ F k b) → b < w.heap.size ∧ ¬ I b ∧ (b < C.w0.heap.size → C.S0 b) := fun b ⟨k, h1, h2⟩ => by
    obtain ⟨r, hr⟩ := hkm k h1
    exact hi.Fsz _ b hr h2
  obtain ⟨hc, hs⟩ := spec w I _ hi.Isz hi.know hown fun b hb => ⟨(hF b hb).1, (hF b hb).2.1⟩
  show o.wp C.P a w (Nx C cs p) (QQ C cs p.k)
  have e1 : a.eval fo = .func (.func f) fi ca := hR.eval hf
  have e2 : args.map a.eval = (svs.map SV.val).toArray := by apply Array.ext'; simpa using evs_ok hR ha
  have hr : (execOp a.eval o).run C.P w = .ok (.enter f V) w := by
    rw [← hV]
    simp [execOp, ho, resolve, e1, e2, Deferred.ofValue, invoke, callB_run hc]
  unfold Oper.wp
  rw [hr]
  refine Calls.mono hs ?_
  rintro e w' ⟨v, S', rfl, hgw, hS1, ⟨F', f1, f2, f3⟩, hP⟩
  have hIS : ∀ b, I b → b < w.heap.size ∧ ¬ ∃ k, k ∈ ks ∧ F k b := fun b hb => ⟨hi.Isz b hb, fun hs => (hF b hs).2.1 hb⟩
  have hIw : Ext I w w' := hgw.mono hIS
  have hRp := hR.put o.dst (.c (nv (enc v)))
  simp only [SV.val, nv_val] at hRp
  obtain ⟨b1, b2, b3⟩ := back_get (hbk v)
  have idx : ∀ q, q ∈ bk v → ∃ i r, (bk v)[i]? = some q ∧ i < (rs v).length ∧ (rs v)[i]? = some r ∧ r.eqv q.2 := fun q hq => by
    obtain ⟨i, hi, rfl⟩ := List.getElem_of_mem hq
    obtain ⟨r, h1, h2⟩ := b3 i _ (List.getElem?_eq_getElem hi)
    exact ⟨i, r, List.getElem?_eq_getElem hi, by omega, h1, h2⟩
  have uniq : ∀ i j (x y : Nat × Res), (bk v)[i]? = some x → (bk v)[j]? = some y → x.1 = y.1 → i = j := fun i j x y hx hy e => by
    obtain ⟨h1, h2⟩ := List.getElem?_eq_some_iff.1 hx
    obtain ⟨h3, h4⟩ := List.getElem?_eq_some_iff.1 hy
    have e1 : ((bk v).map Prod.fst)[i]'(by simpa using h1) = ((bk v).map Prod.fst)[j]'(by simpa using h3) := by simp [h2, h4, e]
    exact (List.getElem_inj b2).1 e1
  let FF : Nat → Nat → Prop := fun j b => (∃ i r, (bk v)[i]? = some (j, r) ∧ F' i b) ∨ ((∀ q, q ∈ bk v → q.1 ≠ j) ∧ F j b)
  have FFn : ∀ i q b, (bk v)[i]? = some q → (FF q.1 b ↔ F' i b) := fun i q b hq => by
    constructor
    · rintro (⟨i', r', h1, h2⟩ | ⟨h1, _⟩)
      · have := uniq i i' _ _ hq h1 rfl
        rw [this]
        exact h2
      · exact absurd rfl (h1 q (List.mem_of_getElem? hq))
    · exact fun hb => .inl ⟨i, q.2, hq, hb⟩
  have FFo : ∀ q b, q ∈ delL ((bk v).map Prod.fst) (delL ks m.rs) → q ∈ m.rs ∧ q.1 ∉ ks ∧ (FF q.1 b ↔ F q.1 b) := fun q b hq => by
    obtain ⟨h1, h2⟩ := delL_mem hq
    obtain ⟨h3, h4⟩ := delL_mem h1
    have h5 : ∀ x, x ∈ bk v → x.1 ≠ q.1 := fun x hx e => h2 (by rw [← e]; exact List.mem_map_of_mem hx)
    refine ⟨h3, h4, ⟨?_, fun hb => .inr ⟨h5, hb⟩⟩⟩
    rintro (⟨i, r, k1, _⟩ | ⟨_, hb⟩)
    · exact absurd rfl (h5 (q.1, r) (List.mem_of_getElem? k1))
    · exact hb
  have notS : ∀ q b, q ∈ m.rs → q.1 ∉ ks → F q.1 b → ¬ ∃ k, k ∈ ks ∧ F k b := fun q b hq hn hb ⟨k, h1, h2⟩ => by
    obtain ⟨r, hr⟩ := hkm k h1
    exact hi.disj q (k, r) b hq hr (fun e => hn (by rw [e]; exact h1)) hb h2
  have notS' : ∀ q b, q ∈ m.rs → q.1 ∉ ks → F q.1 b → ¬ S' b := fun q b hq hn hb hs => notS q b hq hn hb ((hS1 b hs).2.2 (hi.Fsz q b hq hb).1)
  refine ok.sx (k v w' (hP w' (Ext.refl _ _))) _ _ _ hRp ⟨fun b => I b ∨ ((w.heap.size ≤ b ∧ b < w'.heap.size) ∧ ¬ S' b), FF, hi.grow.trans hgw fun b hb => ⟨Nat.lt_of_lt_of_le hb.1 hi.grow.size, fun hs => hb.2 ((hF b hs).2.2 hb.1)⟩, ?_, fun b hb => .inl (hi.I0 b hb), ?_, ?_, ?_, ?_, ?_, ?_, ?_⟩
  · rintro b (hb | hb)
    · exact Nat.lt_of_lt_of_le (hi.Isz b hb) hgw.size
    · exact hb.1.2
  · rintro b (hb | hb) hlt
    · exact hi.Iold b hb hlt
    · have := hi.grow.size; omega
  · intro q hq
    rcases List.mem_append.1 hq with hq | hq
    · obtain ⟨i, r, h1, h2, h3, h4⟩ := idx q hq
      exact (h4.to (f1 i r h3)).same fun b => FFn i q b h1
    · obtain ⟨h1, h2, _⟩ := FFo q 0 hq
      exact ((hi.own q h1).ext (hgw.mono fun b hb => ⟨(hi.Fsz q b h1 hb).1, notS q b h1 h2 hb⟩)).same fun b => (FFo q b hq).2.2
  · intro q b hq hb
    rcases List.mem_append.1 hq with hq | hq
    · obtain ⟨i, r, h1, h2, h3, h4⟩ := idx q hq
      have hs : S' b := (f3 b).2 ⟨i, h2, (FFn i q b h1).1 hb⟩
      obtain ⟨k1, k2, k3⟩ := hS1 b hs
      refine ⟨k1, ?_, fun hlt => ?_⟩
      · rintro (h5 | h5)
        · exact k2 h5
        · exact h5.2 hs
      · exact (hF b (k3 (Nat.lt_of_lt_of_le hlt hi.grow.size))).2.2 hlt
    · obtain ⟨h1, h2, h3⟩ := FFo q b hq
      have hb := h3.1 hb
      obtain ⟨k1, k2, k3⟩ := hi.Fsz q b h1 hb
      refine ⟨Nat.lt_of_lt_of_le k1 hgw.size, ?_, k3⟩
      rintro (h5 | h5)
      · exact k2 h5
      · omega
  · intro q q' b hq hq' hne hb hb'
    rcases List.mem_append.1 hq with hq | hq
    · obtain ⟨i, r, h1, h2, h3, h4⟩ := idx q hq
      have e1 := (FFn i q b h1).1 hb
      rcases List.mem_append.1 hq' with hq' | hq'
      · obtain ⟨j, r', k1, k2, k3, k4⟩ := idx q' hq'
        refine f2 i j b h2 k2 (fun e => ?_) e1 ((FFn j q' b k1).1 hb')
        subst e
        rw [h1] at k1
        cases k1
        exact hne rfl
      · obtain ⟨k1, k2, k3⟩ := FFo q' b hq'
        exact notS' q' b k1 k2 (k3.1 hb') ((f3 b).2 ⟨i, h2, e1⟩)
    · obtain ⟨k1, k2, k3⟩ := FFo q b hq
      rcases List.mem_append.1 hq' with hq' | hq'
      · obtain ⟨i, r, h1, h2, h3, h4⟩ := idx q' hq'
        exact notS' q b k1 k2 (k3.1 hb) ((f3 b).2 ⟨i, h2, (FFn i q' b h1).1 hb'⟩)
      · obtain ⟨k4, k5, k6⟩ := FFo q' b hq'
        exact hi.disj q q' b k1 k4 hne (k3.1 hb) (k6.1 hb')
  · intro q b hq hlt hb
    rcases List.mem_append.1 hq with hq | hq
    · obtain ⟨i, r, h1, h2, h3, h4⟩ := idx q hq
      have hs : S' b := (f3 b).2 ⟨i, h2, (FFn i q b h1).1 hb⟩
      rcases hks with hks | hks
      · rcases Nat.lt_or_ge b w.heap.size with h5 | h5
        · obtain ⟨k, k1, k2⟩ := (hS1 b hs).2.2 h5
          obtain ⟨r', hr'⟩ := hkm k k1
          exact hi.new _ b hr' (hks k k1) k2
        · exact Nat.le_trans hi.grow.size h5
      · have := hks v q hq
        omega
    · obtain ⟨k1, k2, k3⟩ := FFo q b hq
      exact hi.new q b k1 hlt (k3.1 hb)
  · exact fun W e => hi.base W (hIw.trans e fun b hb => .inl hb)
  · refine fun W e => ⟨hP W (e.mono fun b hb => ?_), hi.know W (hIw.trans e fun b hb => .inl hb)⟩
    rcases hb with ⟨hb | hb, hs⟩
    · exact .inl hb
    · exact .inr ⟨hb, hs⟩
/-- A slice is made. -/
theorem mksl (ok : Okc P T C res) {o : Oper} {t d : Nat} {l c : Operand} (ho : o.op = .makeSlice t l c) (hd : o.dst = some d) {i ie : TI} (hi : tf t T = some i) (hik : i.kd = 3) (hie : tf i.el T = some ie) (hz1 : ie.sz = 1) {z : Value} (hz : ie.zero = [z]) {kl kc : IntKind} {x : Int} (hl : ev tm l = some (.c (.v (.int kl x)))) (hc : ev tm c = some (.c (.v (.int kc x))))
    (h0 : 0 ≤ x) (hb : (ie.bt : Int) * x ≤ 140737488355328) (hm : x ≤ 140737488355328)
    (kk : ∀ g, sx T C res 1000 p (put C.n (some d) (.c (.rw d (some ⟨g, 0, none⟩) x.toNat x.toNat)) tm) ⟨m.B, m.G, (d, .row (some ⟨g, 0, none⟩) x.toNat x.toNat i.el 1 (List.replicate x.toNat (.v z))) :: del d (del d m.rs)⟩) : At C (.op o p) tm m := by
  intro a w cs hR hJ
  obtain ⟨y, e1, e2, e3, z', e4, e5⟩ := (ok.ty.get hie).g_some
  have hzc : z'.cells = #[z] := by apply Array.ext'; rw [e5, hz]
  have h1 : a.eval l = .int kl x := hR.eval hl
  have h2 : a.eval c = .int kc x := hR.eval hc
  have hcell : madeCells z'.cells (x.toNat * y.size) = ((List.replicate x.toNat (CV.v z)).map CV.val).toArray := by
    rw [hzc, e2, hz1, Nat.mul_one]
    apply Array.ext'
    rw [toList_madeCells_one]
    simp [CV.val]
  have hrun : (execOp a.eval o).run C.P w = .ok (.value (.slice (some ⟨w.heap.size, 0, none⟩) x.toNat x.toNat)) (w.alloc (.cells ((List.replicate x.toNat (CV.v z)).map CV.val).toArray i.el)) := by
    have h3 := run_make (P := C.P) w t i.el y z' ((ok.ty.get hi).g_slice hik) e1 e4 kl kc x x h0 (Int.le_refl _) (by rw [e3]; omega) (by omega)
    rw [hcell] at h3
    simp [execOp, ho, h1, h2, h3]
  exact op_value (ok.sx (kk w.heap.size)) hrun (by rw [hd]; exact hR.put (some d) (.c (.rw d (some ⟨w.heap.size, 0, none⟩) x.toNat x.toNat))) (hJ.lit d i.el 1 x.toNat _ (by simp only [maxLen]; omega) (by simp))
theorem rowLe (k : Nat) {a : Option Addr} {n c : Nat} {e : TypeId} {sz : Nat} {cs : List CV} (hl : look k m.rs = some (.row a n c e sz cs)) (h : n ≤ c → At C p tm m) : At C p tm m := by
  rintro act w cs0 hR ⟨I, F, hJ⟩
  refine h ?_ act w cs0 hR ⟨I, F, hJ⟩
  rcases (hJ.own _ (look_mem hl)).2.2 with ⟨hv, hn⟩ | ⟨g, cap, cur, hv, hb, hg, hnc, _⟩
  · omega
  · obtain ⟨rfl, rfl⟩ : a = some ⟨g, 0, none⟩ ∧ c = cap := by simpa using hv
    exact hnc
end
end Go.Proofs.Ytbbaoeidobdblaa.Sx

/- Sx, part 8: how data read in memory: numbers, texts, entries, runs, inodes, deeds, states. -/
set_option linter.unusedVariables false
set_option linter.unusedSimpArgs false
namespace Go.Proofs.Ytbbaoeidobdblaa.Sx
open Go
@[simp] theorem map_nv (l : List Value) : (l.map nv).map CV.val = l := by simp [Function.comp_def, nv_val]
@[simp] theorem map_nv' (l : List Value) : l.map (CV.val ∘ nv) = l := by simp [Function.comp_def, nv_val]
structure Dt (α : Type) where
  sz : Nat
  K : World → α → List Value → Prop
  len : ∀ {w x cs}, K w x cs → cs.length = sz
  one : ∀ {w x cs}, K w x cs → ∀ u ∈ cs, u.oneCell' = true
/-- A slice at a that reads as xs. -/
def Rd {α : Type} (d : Dt α) (W : World) (a : Option Addr) (xs : List α) : Prop :=
  xs ≠ [] → ∃ b o, a = some ⟨b, o, none⟩ ∧ ∀ i x, xs[i]? = some x → ∃ cs, d.K W x cs ∧ ∀ j v, cs[j]? = some v → W.cell? ⟨b, o + i * d.sz + j, none⟩ = some v
theorem rd_nil {α : Type} (d : Dt α) (W : World) (a : Option Addr) : Rd d W a [] := fun h => absurd rfl h
theorem Rd.get {α : Type} {d : Dt α} {W : World} {b o : Nat} {xs : List α} (h : Rd d W (some ⟨b, o, none⟩) xs) {i : Nat} (hi : i < xs.length) : ∃ cs, d.K W xs[i] cs ∧ cs.length = d.sz ∧ ∀ j v, cs[j]? = some v → W.cell? ⟨b, o + i * d.sz + j, none⟩ = some v := by
  obtain ⟨b', o', e, hc⟩ := h (by rintro rfl; simp at hi)
  cases e
  obtain ⟨cs, h1, h2⟩ := hc i xs[i] (List.getElem?_eq_getElem hi)
  exact ⟨cs, h1, d.len h1, h2⟩
theorem Rd.is_some {α : Type} {d : Dt α} {W : World} {a : Option Addr} {xs : List α} (h : Rd d W a xs) (h0 : 0 < xs.length) : ∃ b o, a = some ⟨b, o, none⟩ := by
  obtain ⟨b, o, e, _⟩ := h (by rintro rfl; simp at h0)
  exact ⟨b, o, e⟩
/-- Cells, element by element. -/
def Rows {α : Type} (d : Dt α) (W : World) (xs : List α) (cs : List Value) : Prop := cs.length = xs.length * d.sz ∧ ∀ i x, xs[i]? = some x → d.K W x ((cs.drop (i * d.sz)).take d.sz)
theorem rows_nil {α : Type} (d : Dt α) (W : World) : Rows d W [] [] := ⟨by simp, fun i x h => by simp at h⟩
theorem Rows.snoc {α : Type} {d : Dt α} {W : World} {xs : List α} {cs c : List Value} {x : α} (h : Rows d W xs cs) (hx : d.K W x c) : Rows d W (xs ++ [x]) (cs ++ c) := by
  have hl := d.len hx
  refine ⟨by simp [h.1, hl, Nat.add_mul], fun i y hy => ?_⟩
  rcases Nat.lt_or_ge i xs.length with hi | hi
  · rw [List.getElem?_append_left hi] at hy
    have h1 := h.2 i y hy
    have h2 : i * d.sz + d.sz ≤ cs.length := by
      rw [h.1, ← Nat.succ_mul]
      exact Nat.mul_le_mul_right _ hi
    rw [List.drop_append_of_le_length (by omega), List.take_append_of_le_length (by rw [List.length_drop]; omega)]
    exact h1
  · rw [List.getElem?_append_right hi] at hy
    have h0 : i - xs.length = 0 := by
      rcases Nat.eq_zero_or_pos (i - xs.length) with h | h
      · exact h
      · rw [List.getElem?_eq_none (by simp; omega)] at hy
        cases hy
    rw [h0] at hy
    simp at hy
    subst hy
    have : i = xs.length := by omega
    rw [this, ← h.1, List.drop_left, ← hl, List.take_length]
    exact hx
theorem Rd.all_rows {α : Type} {d : Dt α} {W : World} {b o : Nat} {xs : List α} (h : Rd d W (some ⟨b, o, none⟩) xs) : ∃ l, Rows d W xs l ∧ (∀ u ∈ l, u.oneCell' = true) ∧ ∀ j v, l[j]? = some v → W.cell? ⟨b, o + j, none⟩ = some v := by
  have key : ∀ n, n ≤ xs.length → ∃ l, Rows d W (xs.take n) l ∧ (∀ u ∈ l, u.oneCell' = true) ∧ ∀ j v, l[j]? = some v → W.cell? ⟨b, o + j, none⟩ = some v := by
    intro n
    induction n with
    | zero => exact fun _ => ⟨[], by simpa using rows_nil d W, fun u hu => (by cases hu), fun j v h => (by simp at h)⟩
    | succ n ih =>
      intro hn
      obtain ⟨l, h1, h2, h3⟩ := ih (by omega)
      obtain ⟨cs, k1, k2, k3⟩ := h.get (i := n) (by omega)
      refine ⟨l ++ cs, ?_, fun u hu => ?_, fun j v hv => ?_⟩
      · rw [List.take_add_one, List.getElem?_eq_getElem (by omega)]
        exact h1.snoc k1
      · rcases List.mem_append.1 hu with hu | hu
        · exact h2 u hu
        · exact d.one k1 u hu
      · have hl : l.length = n * d.sz := by rw [h1.1, List.length_take]; congr 1; omega
        rcases Nat.lt_or_ge j l.length with hj | hj
        · rw [List.getElem?_append_left hj] at hv
          exact h3 j v hv
        · rw [List.getElem?_append_right hj] at hv
          have := k3 _ v hv
          rw [hl] at this hj
          rw [show o + j = o + n * d.sz + (j - n * d.sz) by omega]
          exact this
  obtain ⟨l, h1⟩ := key xs.length (Nat.le_refl _)
  rw [List.take_length] at h1
  exact ⟨l, h1⟩
/-- A row of one's own reads so. -/
theorem Rows.rd {α : Type} {d : Dt α} {W : World} {a : Option Addr} {n c base : Nat} {e : TypeId} {xs : List α} {cs : List Value} (h : Rows d W xs cs) (ho : W.ownsRow base e d.sz (.slice a n c) n cs) (h0 : 0 < d.sz) : n = xs.length ∧ n ≤ c ∧ Rd d W a xs := by
  have hn : n = xs.length := by
    have h1 := ho.1.symm.trans h.1
    exact Nat.eq_of_mul_eq_mul_right h0 h1
  subst hn
  rcases ho.2 with ⟨hv, h1⟩ | ⟨g, cap, cur, hv, _, hg, hnc, _⟩
  · exact ⟨rfl, by omega, fun hne => absurd (List.eq_nil_of_length_eq_zero h1) hne⟩
  · obtain ⟨rfl, rfl⟩ : a = some ⟨g, 0, none⟩ ∧ c = cap := by simpa using hv
    refine ⟨rfl, hnc, fun _ => ⟨g, 0, rfl, fun i x hx => ⟨_, h.2 i x hx, fun j v hv => ?_⟩⟩⟩
    have hj : j < d.sz := by
      have := (List.getElem?_eq_some_iff.1 hv).1
      rw [List.length_take] at this
      omega
    rw [List.getElem?_take, if_pos hj, List.getElem?_drop] at hv
    have hlt := (List.getElem?_eq_some_iff.1 hv).1
    rw [Nat.zero_add, ho.cellAt (i * d.sz + j) (by rw [← ho.1]; exact hlt)]
    exact hv
/-- What is the same value of some cells, whatever the world. -/
def flat {α : Type} (sz : Nat) (f : α → List Value) (h1 : ∀ x, (f x).length = sz) (h2 : ∀ x, ∀ u ∈ f x, u.oneCell' = true) : Dt α := ⟨sz, fun _ x cs => cs = f x, fun h => by rw [h, h1], fun h u hu => h2 _ u (by rw [← h]; exact hu)⟩
theorem Rows.cons_iff {α : Type} {d : Dt α} {W : World} {x : α} {xs : List α} {l : List Value} : Rows d W (x :: xs) l ↔ ∃ c r, l = c ++ r ∧ d.K W x c ∧ Rows d W xs r := by
  constructor
  · intro ⟨h1, h2⟩
    have e : l.length = d.sz + xs.length * d.sz := by rw [h1, List.length_cons, Nat.succ_mul, Nat.add_comm]
    refine ⟨l.take d.sz, l.drop d.sz, (List.take_append_drop _ _).symm, by simpa using h2 0 x rfl, by rw [List.length_drop, e]; omega, fun i y hy => ?_⟩
    have := h2 (i + 1) y (by simpa using hy)
    rwa [List.drop_drop, show d.sz + i * d.sz = (i + 1) * d.sz by rw [Nat.succ_mul, Nat.add_comm]]
  · rintro ⟨c, r, rfl, h1, h2, h3⟩
    have hl := d.len h1
    refine ⟨by rw [List.length_append, hl, h2, List.length_cons, Nat.succ_mul, Nat.add_comm], fun i y hy => ?_⟩
    cases i with
    | zero =>
      simp only [List.getElem?_cons_zero, Option.some.injEq] at hy
      subst hy
      rw [Nat.zero_mul, List.drop_zero, ← hl, List.take_left]
      exact h1
    | succ i =>
      have := h3 i y (by simpa using hy)
      rwa [show (i + 1) * d.sz = c.length + i * d.sz by rw [hl, Nat.succ_mul, Nat.add_comm], ← List.drop_drop, List.drop_left]
theorem rows_flat {α : Type} {sz : Nat} {f : α → List Value} {h1 : ∀ x, (f x).length = sz} {h2 : ∀ x, ∀ u ∈ f x, u.oneCell' = true} {W : World} : ∀ {xs : List α} {l : List Value}, Rows (flat sz f h1 h2) W xs l ↔ l = xs.flatMap f
  | [], l => ⟨fun h => List.eq_nil_of_length_eq_zero (by simpa using h.1), fun h => by subst h; exact rows_nil _ _⟩
  | x :: xs, l => by
    rw [Rows.cons_iff]
    constructor
    · rintro ⟨c, r, rfl, h3, h4⟩
      rw [rows_flat.1 h4]
      exact congrArg (· ++ xs.flatMap f) h3
    · rintro rfl
      exact ⟨f x, xs.flatMap f, rfl, rfl, rows_flat.2 rfl⟩
def dInt : Dt Int := flat 1 (fun x => [.int .i64 x]) (fun _ => rfl) (fun x u hu => by simp at hu; subst hu; rfl)
def dStr : Dt ByteArray := flat 1 (fun x => [.string x]) (fun _ => rfl) (fun x u hu => by simp at hu; subst hu; rfl)
structure Ent where
  name : ByteArray
  no : Int
structure Rn where
  fr : Int
  at_ : Int
  ct : Int
def dEnt : Dt Ent := flat 2 (fun x => [.string x.name, .int .i64 x.no]) (fun _ => rfl) (fun x u hu => by simp at hu; rcases hu with rfl | rfl <;> rfl)
def dRn : Dt Rn := flat 3 (fun x => [.int .i64 x.fr, .int .i64 x.at_, .int .i64 x.ct]) (fun _ => rfl) (fun x u hu => by simp at hu; rcases hu with rfl | rfl | rfl <;> rfl)
structure Ino where
  no : Int
  kind : Int
  links : Int
  size : Int
  target : ByteArray
  ents : List Ent
  runs : List Rn
/-- A slice's value: where, and how much room. -/
abbrev Sl := Option Addr × Nat
def Sl.ok {α : Type} (d : Dt α) (W : World) (s : Sl) (xs : List α) : Prop := xs.length ≤ s.2 ∧ xs.length ≤ 100000000000 ∧ Rd d W s.1 xs
abbrev inoC (x : Ino) (e r : Sl) : List Value := [.int .i64 x.no, .int .i64 x.kind, .int .i64 x.links, .int .i64 x.size, .string x.target, .slice e.1 x.ents.length e.2, .slice r.1 x.runs.length r.2]
def InoR (W : World) (x : Ino) (e r : Sl) : Prop := e.ok dEnt W x.ents ∧ r.ok dRn W x.runs
def dIno : Dt Ino := ⟨7, fun W x cs => ∃ e r, cs = inoC x e r ∧ InoR W x e r, fun h => by obtain ⟨e, r, rfl, _⟩ := h; rfl, fun h u hu => by
  obtain ⟨e, r, rfl, _⟩ := h
  simp [inoC] at hu
  rcases hu with rfl | rfl | rfl | rfl | rfl | rfl | rfl <;> rfl⟩
structure Dee where
  kind : Int
  no : Int
  ino : Ino
abbrev deeC (x : Dee) (e r : Sl) : List Value := .int .i64 x.kind :: .int .i64 x.no :: inoC x.ino e r
def dDee : Dt Dee := ⟨9, fun W x cs => ∃ e r, cs = deeC x e r ∧ InoR W x.ino e r, fun h => by obtain ⟨e, r, rfl, _⟩ := h; rfl, fun h u hu => by
  obtain ⟨e, r, rfl, _⟩ := h
  simp [deeC, inoC] at hu
  rcases hu with rfl | rfl | rfl | rfl | rfl | rfl | rfl | rfl | rfl <;> rfl⟩
structure Sta where
  next : Int
  inos : List Ino
  bad : List Int
abbrev staC (x : Sta) (i b : Sl) : List Value := [.int .i64 x.next, .slice i.1 x.inos.length i.2, .slice b.1 x.bad.length b.2]
def StaR (W : World) (x : Sta) (i b : Sl) : Prop := i.ok dIno W x.inos ∧ b.ok dInt W x.bad
theorem w64 {x : Int} (h : -9223372036854775808 ≤ x) (k : x ≤ 9223372036854775807) : IntKind.i64.wrap x = x := by rw [IntKind.wrap_i64]; omega
theorem owns_nil (w : World) : Owns [] noS w := ⟨fun _ _ => False, fun i r h => by simp at h, fun i j b hi => absurd hi (Nat.not_lt_zero _), fun b => ⟨fun h => h.elim, fun ⟨i, hi, _⟩ => absurd hi (Nat.not_lt_zero _)⟩⟩
theorem no_owns {S : Nat → Prop} {w : World} (h : Owns [] S w) : S = noS := funext fun b => propext ⟨fun hb => (by obtain ⟨F, _, _, h3⟩ := h; obtain ⟨i, hi, _⟩ := (h3 b).1 hb; exact absurd hi (Nat.not_lt_zero _)), fun h => h.elim⟩
/-- A slice's value whole: where, how long, how much room. -/
abbrev Sv := Option Addr × Nat × Nat
abbrev Sv.val (s : Sv) : Value := .slice s.1 s.2.1 s.2.2
def Sv.ok {α : Type} (d : Dt α) (W : World) (s : Sv) (xs : List α) : Prop := s.2.1 = xs.length ∧ Sl.ok d W (s.1, s.2.2) xs
/-- A contract told for a length that is a number's. -/
theorem Fits.sv {P : Program} {f : FuncId} {args : Array Value} {w : World} {I : Nat → Prop} {α : Type} {d : Dt α} {n : Nat} {xs : List α} (e : n = xs.length) (h : Fn0 P f args w I (fun r : Sl => .slice r.1 n r.2) (fun r W => r.ok d W xs)) : Fn0 P f args w I Sv.val (fun r W => Sv.ok d W r xs) := by
  refine ⟨h.1, Calls.mono h.2 ?_⟩
  rintro e1 w' ⟨x, S', rfl, k1, k2, k3, k4⟩
  exact ⟨(x.1, n, x.2), S', rfl, k1, k2, k3, fun W hW => ⟨e, k4 W hW⟩⟩
/-- A value that is a slice which reads so. -/
def slQ {α : Type} (d : Dt α) (xs : List α) (v : Value) (W : World) : Prop := ∃ s : Sl, v = .slice s.1 xs.length s.2 ∧ s.ok d W xs
theorem slQ.get {α : Type} {d : Dt α} {xs : List α} {a : Option Addr} {n c : Nat} {W : World} (h : slQ d xs (.slice a n c) W) : n = xs.length ∧ Sl.ok d W (a, c) xs := by
  obtain ⟨⟨a', c'⟩, e, h⟩ := h
  cases e
  exact ⟨rfl, h⟩
theorem Fits.lone {P : Program} {f : FuncId} {args : Array Value} {w : World} {I S : Nat → Prop} {α : Type} {enc : α → Value} {B : α → (Nat → Prop) → World → Prop} {R : α → World → Prop} (h : Fits P f args w I noS enc B R) (hO : Owns [] S w) : Fits P f args w I S enc B R := by
  rw [no_owns hO]
  exact h
def bC (l : List Int) : List CV := l.map fun y => .v (.int .u8 y)
end Go.Proofs.Ytbbaoeidobdblaa.Sx

/- Plain: numbers, texts, inodes and deeds as bytes. -/
set_option linter.unusedVariables false
set_option linter.unusedSimpArgs false
namespace Go.Proofs.Ytbbaoeidobdblaa.Sx
open Go
theorem u64_wrap (x : Int) : IntKind.u64.wrap x = x % 18446744073709551616 := by simp [IntKind.wrap, IntKind.signed, IntKind.bits]
end Go.Proofs.Ytbbaoeidobdblaa.Sx

/- pack.inode, pack.Deeds. -/
set_option linter.unusedVariables false
set_option linter.unusedSimpArgs false
namespace Go.Proofs.Ytbbaoeidobdblaa.Sx
open Go
attribute [local simp ↓] ifb_true' ifb_false'
attribute [local simp] ifb_true ifb_false ifb_eq sx argsT find ev evOp evs evo evBin evInt evStr evNil evNilA ptrA slcA isNoneA asB evLoad look del cellsB evUn evConv kdec fld evFieldA evField evIdxA evIdx evSlc bndL bndH evLen mmi put resV guardV gvL setO tupV cellsOf ones one upd lits nv exitTo SV.val CV.val TI.agg rdyA allR keepB scan simpO gsp isS subs keepT pickT wr memN pubs Res.fact Region.binds bld rest give delL back Res.eqv vi vb num Sv.val
theorem rows_int {W : World} {xs : List Int} {l : List Value} : Rows dInt W xs l ↔ l = xs.map (Value.int .i64) := by
  unfold dInt
  rw [rows_flat]
  simp [List.map_eq_flatMap]
/-- A row of numbers that is written out. -/
theorem int_ok {W : World} {a : Option Addr} {n c : Nat} {xs : List Int} (h : W.ownsRow 0 3 1 (.slice a n c) n (xs.map (Value.int .i64))) (hl : xs.length ≤ 100000000000) : Sv.ok dInt W (a, n, c) xs := by
  obtain ⟨k1, k2, k3⟩ := (rows_int.2 rfl : Rows dInt W xs _).rd h (by decide)
  exact ⟨k1, by simp; omega, hl, k3⟩
end Go.Proofs.Ytbbaoeidobdblaa.Sx

/- pack.Deeds. -/
set_option linter.unusedVariables false
set_option linter.unusedSimpArgs false
namespace Go.Proofs.Ytbbaoeidobdblaa.Sx
open Go
attribute [local simp ↓] ifb_true' ifb_false'
attribute [local simp] ifb_true ifb_false ifb_eq sx argsT find ev evOp evs evo evBin evInt evStr evNil evNilA ptrA slcA isNoneA asB evLoad look del cellsB evUn evConv kdec fld evFieldA evField evIdxA evIdx evSlc bndL bndH evLen mmi put resV guardV gvL setO tupV cellsOf ones one upd lits nv exitTo SV.val CV.val TI.agg rdyA allR keepB scan simpO gsp isS subs keepT pickT wr memN pubs Res.fact Region.binds bld rest give delL back Res.eqv vi vb num Sv.val undef
theorem dee_get {W : World} {x : Dee} {e r : Sl} (h : dDee.K W x (deeC x e r)) : InoR W x.ino e r := by
  obtain ⟨⟨a, b⟩, ⟨a', b'⟩, h1, h2⟩ := h
  simp [inoC] at h1
  obtain ⟨⟨rfl, rfl⟩, rfl, rfl⟩ := h1
  exact h2
end Go.Proofs.Ytbbaoeidobdblaa.Sx

/- slices.Clone, state.own, state.copied, state.Whole. -/
set_option linter.unusedVariables false
set_option linter.unusedSimpArgs false
namespace Go.Proofs.Ytbbaoeidobdblaa.Sx
open Go
attribute [local simp ↓] ifb_true' ifb_false'
attribute [local simp] ifb_true ifb_false ifb_eq sx argsT find ev evOp evs evo evBin evInt evStr evNil evNilA ptrA slcA isNoneA asB evLoad look del cellsB evUn evConv kdec fld evFieldA evField evIdxA evIdx evSlc bndL bndH evLen mmi put resV guardV gvL setO tupV cellsOf ones one upd lits nv exitTo SV.val CV.val TI.agg rdyA allR keepB scan simpO gsp isS subs keepT pickT wr memN pubs Res.fact Region.binds bld rest give delL back Res.eqv vi vb num Sv.val
/-- An inode's value: what it has, and where its entries and runs stand. -/
abbrev Ix := Ino × Sl × Sl
end Go.Proofs.Ytbbaoeidobdblaa.Sx

/- state.copied, state.Whole. -/
set_option linter.unusedVariables false
set_option linter.unusedSimpArgs false
namespace Go.Proofs.Ytbbaoeidobdblaa.Sx
open Go
attribute [local simp ↓] ifb_true' ifb_false'
attribute [local simp] ifb_true ifb_false ifb_eq sx argsT find ev evOp evs evo evBin evInt evStr evNil evNilA ptrA slcA isNoneA asB evLoad look del cellsB evUn evConv kdec fld evFieldA evField evIdxA evIdx evSlc bndL bndH evLen mmi put resV guardV gvL setO tupV cellsOf ones one upd lits nv exitTo SV.val CV.val TI.agg rdyA allR keepB scan simpO gsp isS subs keepT pickT wr memN pubs Res.fact Region.binds bld rest give delL back Res.eqv vi vb num Sv.val
/-- Inodes' cells, one by one. -/
def inosC (l : List Ix) : List CV := l.flatMap fun y => (inoC y.1 y.2.1 y.2.2).map .v
/-- Slices of one's own that hold inodes. -/
abbrev Inos := Option Addr × Nat × List Ix
abbrev Inos.val (r : Inos) : Value := .slice r.1 r.2.2.length r.2.1
abbrev Inos.res (r : Inos) : Res := .row r.1 r.2.2.length r.2.1 39 7 (inosC r.2.2)
def inoZ : Ino := ⟨0, 0, 0, 0, ⟨#[]⟩, [], []⟩
end Go.Proofs.Ytbbaoeidobdblaa.Sx

/- nor.Right, half.Size, frame.Size, cut.Ceil. -/
set_option linter.unusedVariables false
set_option linter.unusedSimpArgs false
namespace Go.Proofs.Ytbbaoeidobdblaa.Sx
open Go
attribute [local simp ↓] ifb_true' ifb_false'
attribute [local simp] ifb_true ifb_false ifb_eq sx argsT find ev evOp evs evo evBin evInt evStr evNil evNilA ptrA slcA isNoneA asB evLoad look del cellsB evUn evConv kdec fld evFieldA evField evIdxA evIdx evSlc bndL bndH evLen mmi put resV guardV gvL setO tupV cellsOf ones one upd lits nv exitTo SV.val CV.val TI.agg rdyA allR keepB scan simpO gsp isS subs keepT pickT wr memN pubs Res.fact Region.binds bld rest give delL back Res.eqv vi vb num Sv.val
theorem within0 (w : World) (I : Nat → Prop) (hI : ∀ b, I b → b < w.heap.size) (v l t : Int) :
    Fn0 Try.prog 62 #[.int .i64 v, .int .i64 l, .int .i64 t] w I (fun b : Bool => .bool b) (fun y W => y = decide (l ≤ v ∧ v ≤ t)) := by
  refine enter (svs := [.c (.v (.int .i64 v)), .c (.v (.int .i64 l)), .c (.v (.int .i64 t))]) tysOk Try.func62 rfl Try.ntmps62 Try.results62 (by kernel_rfl) (by simp) hI (fun _ => True) (fun _ _ => trivial) fun C hC hN ok => ?_
  simp [hN]
  exact ⟨fun h => ret0 hC _ rfl fun W _ _ => by simp [h], fun h => ret0 hC _ rfl fun W _ _ => by simp; omega⟩
/-- A geometry. -/
structure Geo where
  sectors : Int
  sector : Int
  blocks : Int
  pages : Int
  page : Int
deriving DecidableEq
abbrev geoC (g : Geo) : List Value := [.int .i64 g.sectors, .int .i64 g.sector, .int .i64 g.blocks, .int .i64 g.pages, .int .i64 g.page]
def Geo.right (g : Geo) : Prop := g.sectors.tmod 2 = 0 ∧ (2 ≤ g.sectors ∧ g.sectors ≤ 16) ∧ (256 ≤ g.sector ∧ g.sector ≤ 4096) ∧ (4 ≤ g.blocks ∧ g.blocks ≤ 64) ∧ (2 ≤ g.pages ∧ g.pages ≤ 32) ∧ (16 ≤ g.page ∧ g.page ≤ 256)
instance (g : Geo) : Decidable g.right := by unfold Geo.right; infer_instance
theorem norRight0 (w : World) (I : Nat → Prop) (hI : ∀ b, I b → b < w.heap.size) (g : Geo) :
    Fn0 Try.prog 29 #[.agg (geoC g).toArray] w I (fun b : Bool => .bool b) (fun y W => y = decide g.right) := by
  refine enter (svs := [.ag ((geoC g).map .v)]) tysOk Try.func29 rfl Try.ntmps29 Try.results29 (by kernel_rfl) (by simp) hI (fun _ => True) (fun _ _ => trivial) fun C hC hN ok => ?_
  simp [hN]
  intro g1
  refine ⟨fun h0 => ?_, fun h0 => ret0 hC false rfl fun W _ _ => by simp [Geo.right, h0]⟩
  refine call0 ok rfl rfl rfl (fun w I hI hG => within0 w I hI _ _ _) fun y1 W hy1 => ?_
  simp [hN]
  refine ⟨fun h1 => ?_, fun h1 => ret0 hC false rfl fun W _ _ => by rw [hy1] at h1; exact (decide_eq_false fun hr => absurd hr.2.1 (of_decide_eq_false h1)).symm⟩
  refine call0 ok rfl rfl rfl (fun w I hI hG => within0 w I hI _ _ _) fun y2 W hy2 => ?_
  simp [hN]
  refine ⟨fun h2 => ?_, fun h2 => ret0 hC false rfl fun W _ _ => by rw [hy2] at h2; exact (decide_eq_false fun hr => absurd hr.2.2.1 (of_decide_eq_false h2)).symm⟩
  refine call0 ok rfl rfl rfl (fun w I hI hG => within0 w I hI _ _ _) fun y3 W hy3 => ?_
  simp [hN]
  refine ⟨fun h3 => ?_, fun h3 => ret0 hC false rfl fun W _ _ => by rw [hy3] at h3; exact (decide_eq_false fun hr => absurd hr.2.2.2.1 (of_decide_eq_false h3)).symm⟩
  refine call0 ok rfl rfl rfl (fun w I hI hG => within0 w I hI _ _ _) fun y4 W hy4 => ?_
  simp [hN]
  refine ⟨fun h4 => ?_, fun h4 => ret0 hC false rfl fun W _ _ => by rw [hy4] at h4; exact (decide_eq_false fun hr => absurd hr.2.2.2.2.1 (of_decide_eq_false h4)).symm⟩
  refine call0 ok rfl rfl rfl (fun w I hI hG => within0 w I hI _ _ _) fun y5 W hy5 => ?_
  simp [hN]
  refine ret0 hC y5 rfl fun W _ _ => ?_
  rw [hy1] at h1
  rw [hy2] at h2
  rw [hy3] at h3
  rw [hy4] at h4
  rw [hy5]
  simp at h1 h2 h3 h4
  simp [Geo.right, h0, h1, h2, h3, h4]
end Go.Proofs.Ytbbaoeidobdblaa.Sx

/- runs.goes, Right, Pages, Count. -/
set_option linter.unusedVariables false
set_option linter.unusedSimpArgs false
namespace Go.Proofs.Ytbbaoeidobdblaa.Sx
open Go
attribute [local simp ↓] ifb_true' ifb_false'
attribute [local simp] ifb_true ifb_false ifb_eq sx argsT find ev evOp evs evo evBin evInt evStr evNil evNilA ptrA slcA isNoneA asB evLoad look del cellsB evUn evConv kdec fld evFieldA evField evIdxA evIdx evSlc bndL bndH evLen mmi put resV guardV gvL setO tupV cellsOf ones one upd lits nv exitTo SV.val CV.val TI.agg rdyA allR keepB scan simpO gsp isS subs keepT pickT wr memN pubs Res.fact Region.binds bld rest give delL back Res.eqv vi vb num Sv.val undef
abbrev rnC (x : Rn) : List Value := [.int .i64 x.fr, .int .i64 x.at_, .int .i64 x.ct]
def okR (r : Rn) : Prop := 0 ≤ r.fr ∧ 0 ≤ r.at_ ∧ 1 ≤ r.ct ∧ r.ct ≤ 64 ∧ r.fr ≤ 64 - r.ct ∧ r.at_ ≤ 2147483648 - r.ct
def goesP (p r : Rn) : Prop := r.fr = p.fr + p.ct ∧ r.at_ = p.at_ + p.ct
def okS (p r : Rn) : Prop := p.fr + p.ct ≤ r.fr ∧ ¬ goesP p r
instance (r : Rn) : Decidable (okR r) := by unfold okR; infer_instance
instance (p r : Rn) : Decidable (goesP p r) := by unfold goesP; infer_instance
instance (p r : Rn) : Decidable (okS p r) := by unfold okS; infer_instance
theorem goes0 (w : World) (I : Nat → Prop) (hI : ∀ b, I b → b < w.heap.size) (p r : Rn) (hp : okR p) :
    Fn0 Try.prog 139 #[.agg (rnC p).toArray, .agg (rnC r).toArray] w I (fun b : Bool => .bool b) (fun y W => y = decide (goesP p r)) := by
  refine enter (svs := [.ag ((rnC p).map .v), .ag ((rnC r).map .v)]) tysOk Try.func139 rfl Try.ntmps139 Try.results139 (by kernel_rfl) (by simp) hI (fun _ => True) (fun _ _ => trivial) fun C hC hN ok => ?_
  obtain ⟨p0, p1, p2, p3, p4, p5⟩ := hp
  have e1 : IntKind.i64.wrap (p.fr + p.ct) = p.fr + p.ct := w64 (by omega) (by omega)
  have e2 : IntKind.i64.wrap (p.at_ + p.ct) = p.at_ + p.ct := w64 (by omega) (by omega)
  simp [hN, e1, e2]
  exact fun g1 g2 => ⟨fun h => ret0 hC _ rfl fun W _ _ => by simp [goesP, h], fun h => ret0 hC _ rfl fun W _ _ => by simp [goesP, h]⟩
/-- All before are as they should be. -/
def rightTo (l : List Rn) (i : Nat) : Prop := ∀ j (h : j < l.length), j < i → okR l[j] ∧ ∀ h0 : 0 < j, okS (l[j - 1]'(by omega)) l[j]
abbrev RightL (l : List Rn) : Prop := rightTo l l.length
theorem rn_get {W : World} {a : Option Addr} {n c : Nat} {l : List Rn} (h : Sv.ok dRn W (a, n, c) l) {i : Nat} (hi : i < l.length) : ∃ b o, a = some ⟨b, o, none⟩ ∧ ∀ j v, (rnC l[i])[j]? = some v → W.cell? ⟨b, o + i * 3 + j, none⟩ = some v := by
  obtain ⟨b, o, e⟩ := h.2.2.2.is_some (show 0 < l.length by omega)
  cases e
  obtain ⟨cs, hk, _, hc⟩ := h.2.2.2.get hi
  exact ⟨b, o, rfl, by rw [hk] at hc; exact hc⟩
set_option maxRecDepth 100000 in
set_option maxHeartbeats 4000000 in
theorem runsRight0 (w : World) (I : Nat → Prop) (hI : ∀ b, I b → b < w.heap.size) {a : Option Addr} {n c : Nat} (l : List Rn) (h : ∀ W, Ext I w W → Sv.ok dRn W (a, n, c) l) :
    Fn0 Try.prog 130 #[.slice a n c] w I (fun b : Bool => .bool b) (fun y W => y = true ↔ RightL l) := by
  obtain rfl : n = l.length := (h w (Ext.refl _ _)).1
  have hx := (h w (Ext.refl _ _)).2.2.1
  refine enter (svs := [.c (.v (.slice a l.length c))]) tysOk Try.func130 rfl Try.ntmps130 Try.results130 (by kernel_rfl) (by simp) hI (fun W => Sv.ok dRn W (a, l.length, c) l) h fun C hC hN ok => ?_
  simp [hN]
  refine loopK [0, 5, 6, 2] ok (fun i : Nat => [(7, .c (.v (.int .i64 i)))]) (fun _ => []) (fun i W => i ≤ l.length ∧ rightTo l i) (fun i => l.length - i) 0 ?_ ?_ (fun W hW => ⟨Nat.zero_le _, fun j _ hj => absurd hj (Nat.not_lt_zero _)⟩) ?_
  · simp
  · simp
  rintro i W ⟨hi, hr⟩ hG next
  rcases Nat.lt_or_ge i l.length with hlt | hge
  · obtain ⟨b, o, e⟩ := (show Sv.ok dRn W (a, l.length, c) l from hG).2.2.2.is_some (Nat.lt_of_le_of_lt (Nat.zero_le _) hlt)
    cases e
    simp [hN, hlt]
    have e6 : IntKind.i64.wrap ((i : Int) + 1) = (i + 1 : Nat) := by rw [w64 (by omega) (by omega)]; omega
    refine loadA ok rfl rfl rfl rfl (fun c W => c = rnC l[i]) (fun W hW => ?_) ?_
    · obtain ⟨cs, hk, _, hc⟩ := hW.2.2.2.2.get hlt
      exact ⟨cs, by rw [hk]; rfl, hc, hk⟩
    rintro v W _ rfl hG2
    have hni : ¬ okR l[i] → ¬ RightL l := fun h1 h2 => h1 (h2 i hlt hlt).1
    generalize hd : l[i] = d at hni
    simp [hN]
    intro g4
    have no : ¬ okR d → RetP C (.bool false) ⟨fun _ => True, fun W => (i ≤ l.length ∧ rightTo l i) ∧ Sv.ok dRn W (some ⟨b, o, none⟩, l.length, c) l, [(4, .box g4 102 [.v (.int .i64 d.fr), .v (.int .i64 d.at_), .v (.int .i64 d.ct)])]⟩ := fun h => ret0 hC false rfl fun W _ _ => by simp [hni h]
    refine ⟨fun h1 => ⟨fun h2 => ⟨fun h3 => ⟨fun h4 => ?_, fun h4 => no fun hk => ?_⟩, fun h3 => no fun hk => ?_⟩, fun h2 => no fun hk => ?_⟩, fun h1 => no fun hk => ?_⟩
    rotate_left
    · have := hk.2.2.2.1
      omega
    · have := hk.2.2.1
      omega
    · have := hk.2.1
      omega
    · have := hk.1
      omega
    have e8 : IntKind.i64.wrap (64 - d.ct) = 64 - d.ct := w64 (by omega) (by omega)
    have e9 : IntKind.i64.wrap (2147483648 - d.ct) = 2147483648 - d.ct := w64 (by omega) (by omega)
    rw [e8, e9]
    refine ⟨fun h5 => ⟨fun h6 => no fun hk => ?_, fun h6 => ?_⟩, fun h5 => no fun hk => ?_⟩
    · have := hk.2.2.2.2.2
      omega
    rotate_left
    · have := hk.2.2.2.2.1
      omega
    have hk : okR d := ⟨h1, h2, h3, h4, h5, h6⟩
    refine drawK ok mixed (by kernel_rfl) ?_
    by_cases h0 : i = 0
    · subst h0
      simp (maxSteps := 2000000) -implicitDefEqProofs [hN]
      have e1 : IntKind.i64.wrap 1 = 1 := w64 (by omega) (by omega)
      rw [e1]
      refine next 1 _ _ (by omega) (fun W h => ⟨⟨hlt, fun j hj hj1 => ?_⟩, h.2⟩) ?_
      · obtain rfl : j = 0 := by omega
        rw [hd]
        exact ⟨hk, fun h => absurd h (Nat.lt_irrefl _)⟩
      · simp
    · have h0' : 0 < i := by omega
      have e7 : IntKind.i64.wrap ((i : Int) - 1) = (i - 1 : Nat) := by rw [w64 (by omega) (by omega)]; omega
      have hpl : i - 1 < l.length := by omega
      have hokp := (hr (i - 1) hpl (by omega)).1
      have hcl : ∀ W, Sv.ok dRn W (some ⟨b, o, none⟩, l.length, c) l → ∀ j v, (rnC l[i - 1])[j]? = some v → W.cell? ⟨b, o + (i - 1) * 3 + j, none⟩ = some v := fun W hW => by
        obtain ⟨b', o', e, hh⟩ := rn_get hW hpl
        cases e
        exact hh
      have hns : ¬ okS l[i - 1] d → ¬ RightL l := fun h1 h2 => h1 (by rw [← hd]; exact (h2 i hlt hlt).2 h0')
      generalize hq : l[i - 1] = p at hokp hcl hns
      obtain ⟨p0, p1, p2, p3, p4, p5⟩ := id hokp
      have e10 : IntKind.i64.wrap (p.fr + p.ct) = p.fr + p.ct := w64 (by omega) (by omega)
      simp (maxSteps := 2000000) -implicitDefEqProofs [hN, h0', e7]
      refine ⟨by omega, ?_⟩
      refine ⟨?_, ?_⟩
      · refine load1 ok rfl rfl rfl rfl (fun v W => v = .int .i64 p.fr) (fun W hW => ⟨_, by simpa using hcl W hW.2 0 _ rfl, rfl⟩) ?_
        rintro v W rfl _
        simp (maxSteps := 2000000) -implicitDefEqProofs [hN, e7]
        refine load1 ok rfl rfl rfl rfl (fun v W => v = .int .i64 p.ct) (fun W hW => ⟨_, hcl W hW.2 2 _ rfl, rfl⟩) ?_
        rintro v W rfl _
        simp (maxSteps := 2000000) -implicitDefEqProofs [hN, e10, e7]
        refine ⟨fun h7 => ret0 hC false rfl fun W _ _ => by simp [hns fun h => by have := h.1; omega], fun h7 => ⟨by omega, ?_⟩⟩
        refine loadA ok rfl rfl rfl rfl (fun c W => c = rnC p) (fun W hW => ⟨rnC p, rfl, hcl W hW.2, rfl⟩) ?_
        rintro v W _ rfl _
        simp (maxSteps := 2000000) -implicitDefEqProofs [hN]
        refine call0 ok rfl rfl rfl (fun w I hI hG => goes0 w I hI p d hokp) fun y W hy => ?_
        simp (maxSteps := 2000000) -implicitDefEqProofs [hN, e6]
        refine ⟨fun h8 => ?_, fun h8 => ?_⟩
        · rw [hy] at h8
          simp at h8
          exact ret0 hC false rfl fun W _ _ => by simp [hns fun h => h.2 h8]
        · rw [hy] at h8
          simp at h8
          refine next (i + 1) _ _ (by omega) (fun W h => ⟨⟨hlt, fun j hj hj1 => ?_⟩, h.2.2⟩) ?_
          · rcases Nat.lt_or_ge j i with hji | hji
            · exact hr j hj hji
            · obtain rfl : j = i := by omega
              rw [hd]
              exact ⟨hk, fun _ => by rw [hq]; exact ⟨h7, h8⟩⟩
          · simp
      · refine load1 ok rfl rfl rfl rfl (fun v W => v = .int .i64 p.ct) (fun W hW => ⟨_, hcl W hW.2 2 _ rfl, rfl⟩) ?_
        rintro v W rfl _
        simp (maxSteps := 2000000) -implicitDefEqProofs [hN, e7]
        refine load1 ok rfl rfl rfl rfl (fun v W => v = .int .i64 p.fr) (fun W hW => ⟨_, by simpa using hcl W hW.2 0 _ rfl, rfl⟩) ?_
        rintro v W rfl _
        simp (maxSteps := 2000000) -implicitDefEqProofs [hN, e10, e7]
        refine ⟨fun h7 => ret0 hC false rfl fun W _ _ => by simp [hns fun h => by have := h.1; omega], fun h7 => ⟨by omega, ?_⟩⟩
        refine loadA ok rfl rfl rfl rfl (fun c W => c = rnC p) (fun W hW => ⟨rnC p, rfl, hcl W hW.2, rfl⟩) ?_
        rintro v W _ rfl _
        simp (maxSteps := 2000000) -implicitDefEqProofs [hN]
        refine call0 ok rfl rfl rfl (fun w I hI hG => goes0 w I hI p d hokp) fun y W hy => ?_
        simp (maxSteps := 2000000) -implicitDefEqProofs [hN, e6]
        refine ⟨fun h8 => ?_, fun h8 => ?_⟩
        · rw [hy] at h8
          simp at h8
          exact ret0 hC false rfl fun W _ _ => by simp [hns fun h => h.2 h8]
        · rw [hy] at h8
          simp at h8
          refine next (i + 1) _ _ (by omega) (fun W h => ⟨⟨hlt, fun j hj hj1 => ?_⟩, h.2.2⟩) ?_
          · rcases Nat.lt_or_ge j i with hji | hji
            · exact hr j hj hji
            · obtain rfl : j = i := by omega
              rw [hd]
              exact ⟨hk, fun _ => by rw [hq]; exact ⟨h7, h8⟩⟩
          · simp
  · simp [hN, Nat.not_lt.2 hge]
    exact ret0 hC true rfl fun W _ _ => by
      have hi' : i = l.length := by omega
      subst hi'
      simp only [true_iff]
      exact hr
end Go.Proofs.Ytbbaoeidobdblaa.Sx

/- runs.Pages, runs.Count. -/
set_option linter.unusedVariables false
set_option linter.unusedSimpArgs false
namespace Go.Proofs.Ytbbaoeidobdblaa.Sx
open Go
attribute [local simp ↓] ifb_true' ifb_false'
attribute [local simp] ifb_true ifb_false ifb_eq sx argsT find ev evOp evs evo evBin evInt evStr evNil evNilA ptrA slcA isNoneA asB evLoad look del cellsB evUn evConv kdec fld evFieldA evField evIdxA evIdx evSlc bndL bndH evLen mmi put resV guardV gvL setO tupV cellsOf ones one upd lits nv exitTo SV.val CV.val TI.agg rdyA allR keepB scan simpO gsp isS subs keepT pickT wr memN pubs Res.fact Region.binds bld rest give delL back Res.eqv vi vb num Sv.val undef
def iC (l : List Int) : List CV := l.map fun y => .v (.int .i64 y)
theorem iC_val (l : List Int) : (iC l).map CV.val = l.map (Value.int .i64) := by simp [iC, Function.comp_def, CV.val]
/-- A run's pages. -/
def pg (r : Rn) : List Int := (List.range r.ct.toNat).map fun (j : Nat) => r.at_ + j
open Classical in
noncomputable def pagesL (l : List Rn) : List Int := if RightL l then l.flatMap pg else []
end Go.Proofs.Ytbbaoeidobdblaa.Sx

/- space.Of, space.Sure. -/
set_option linter.unusedVariables false
set_option linter.unusedSimpArgs false
namespace Go.Proofs.Ytbbaoeidobdblaa.Sx
open Go
attribute [local simp ↓] ifb_true' ifb_false'
attribute [local simp] ifb_true ifb_false ifb_eq sx argsT find ev evOp evs evo evBin evInt evStr evNil evNilA ptrA slcA isNoneA asB evLoad look del cellsB evUn evConv kdec fld evFieldA evField evIdxA evIdx evSlc bndL bndH evLen mmi put resV guardV gvL setO tupV cellsOf ones one upd lits nv exitTo SV.val CV.val TI.agg rdyA allR keepB scan simpO gsp isS subs keepT pickT wr memN pubs Res.fact Region.binds bld rest give delL back Res.eqv vi vb num Sv.val undef
structure Room where
  all : Int
  live : Int
  bad : Int
deriving DecidableEq
end Go.Proofs.Ytbbaoeidobdblaa.Sx

/- References: new inodes and states; geometries. -/
set_option linter.unusedVariables false
set_option linter.unusedSimpArgs false
namespace Go.Proofs.Ytbbaoeidobdblaa.Sx
open Go
attribute [local simp ↓] ifb_true' ifb_false'
attribute [local simp] ifb_true ifb_false ifb_eq sx argsT find ev evOp evs evo evBin evInt evStr evNil evNilA ptrA slcA isNoneA asB evLoad look del cellsB evUn evConv kdec fld evFieldA evField evIdxA evIdx evSlc bndL bndH evLen mmi put resV guardV gvL setO tupV cellsOf ones one upd lits nv exitTo SV.val CV.val TI.agg rdyA allR keepB scan simpO gsp isS subs keepT pickT wr memN pubs Res.fact Region.binds bld rest give delL back Res.eqv vi vb num Sv.val undef
def emp : ByteArray := ⟨#[]⟩
def newIno (no kind : Int) (t : ByteArray) : Ino := ⟨no, kind, if kind = 2 then 2 else 1, if kind = 3 then t.size else 0, if kind = 3 then t else emp, [], []⟩
theorem newIno0 (w : World) (I : Nat → Prop) (hI : ∀ b, I b → b < w.heap.size) (no kind : Int) (t : ByteArray) :
    Fn0 Try.prog 73 #[.int .i64 no, .int .i64 kind, .string t] w I (fun _ : Unit => .agg (inoC (newIno no kind t) (none, 0) (none, 0)).toArray) (fun y W => True) := by
  refine enter (svs := [.c (.v (.int .i64 no)), .c (.v (.int .i64 kind)), .c (.v (.string t))]) tysOk Try.func73 rfl Try.ntmps73 Try.results73 (by kernel_rfl) (by simp) hI (fun _ => True) (fun _ _ => trivial) fun C hC hN ok => ?_
  by_cases k2 : kind = 2
  · subst k2
    simp [hN]
    exact fun g1 g2 => ret0 hC () rfl fun _ _ _ => trivial
  · by_cases k3 : kind = 3
    · subst k3
      simp [hN]
      exact fun g1 g2 => ret0 hC () rfl fun _ _ _ => trivial
    · simp [hN, k2, k3]
      exact fun g1 g2 => ret0 hC () (by simp [newIno, k2, k3, emp]) fun _ _ _ => trivial
def newSta : Sta := ⟨2, [newIno 1 2 emp], []⟩
theorem newSta0 (w : World) (I : Nat → Prop) (hI : ∀ b, I b → b < w.heap.size) :
    Fn0 Try.prog 37 #[] w I (fun y : Sl => .agg (staC newSta y (none, 0)).toArray) (fun y W => StaR W newSta y (none, 0)) := by
  refine enter (svs := []) tysOk Try.func37 rfl Try.ntmps37 Try.results37 (by kernel_rfl) (by simp) hI (fun _ => True) (fun _ _ => trivial) fun C hC hN ok => ?_
  simp [hN]
  intro g1
  refine call0 ok rfl rfl rfl (fun w I hI hG => newIno0 w I hI 1 2 emp) fun y W _ => ?_
  simp [hN]
  intro g2
  refine ret0 hC (some ⟨g2, 0, none⟩, 1) rfl fun W hp _ => ?_
  have h1 : Rows dIno W [newIno 1 2 emp] (inoC (newIno 1 2 emp) (none, 0) (none, 0)) := by
    refine Rows.cons_iff.2 ⟨_, [], (List.append_nil _).symm, ⟨(none, 0), (none, 0), rfl, ⟨Nat.le_refl _, by simp [newIno], rd_nil _ _ _⟩, ⟨Nat.le_refl _, by simp [newIno], rd_nil _ _ _⟩⟩, rows_nil _ _⟩
  have h2 : W.ownsRow 0 39 7 (.slice (some ⟨g2, 0, none⟩) 1 1) 1 (inoC (newIno 1 2 emp) (none, 0) (none, 0)) := by simpa [newIno, emp, inoC] using hp.2.1
  obtain ⟨k1, k2, k3⟩ := h1.rd h2 (by decide)
  exact ⟨⟨by simp [newSta], by simp [newSta], k3⟩, ⟨Nat.le_refl _, by simp [newSta], rd_nil _ _ _⟩⟩
def modP (v n : Int) : Int := (v % 18446744073709551616) % n
theorem mod0 (w : World) (I : Nat → Prop) (hI : ∀ b, I b → b < w.heap.size) (v n : Int) (h0 : 0 < n) (h1 : n ≤ 1000000000) :
    Fn0 Try.prog 28 #[.int .i64 v, .int .i64 n] w I (fun z : Int => .int .i64 z) (fun y W => y = modP v n) := by
  refine enter (svs := [.c (.v (.int .i64 v)), .c (.v (.int .i64 n))]) tysOk Try.func28 rfl Try.ntmps28 Try.results28 (by kernel_rfl) (by simp) hI (fun _ => True) (fun _ _ => trivial) fun C hC hN ok => ?_
  have e1 : n % 18446744073709551616 = n := by omega
  simp [hN, u64_wrap, e1]
  have e2 : 0 ≤ v % 18446744073709551616 := by omega
  have e3 : (v % 18446744073709551616).tmod n = modP v n := Int.tmod_eq_emod_of_nonneg e2
  have e4 : 0 ≤ modP v n := Int.emod_nonneg _ (by omega)
  have e5 : modP v n < n := Int.emod_lt_of_pos _ h0
  rw [e3, w64 (by omega) (by omega)]
  exact ⟨by omega, ret0 hC _ rfl fun _ _ _ => rfl⟩
theorem wide0 (w : World) (I : Nat → Prop) (hI : ∀ b, I b → b < w.heap.size) :
    Fn0 Try.prog 24 #[] w I (fun _ : Unit => .agg (geoC ⟨8, 2048, 12, 8, 32⟩).toArray) (fun y W => True) := by
  refine enter (svs := []) tysOk Try.func24 rfl Try.ntmps24 Try.results24 (by kernel_rfl) (by simp) hI (fun _ => True) (fun _ _ => trivial) fun C hC hN ok => ?_
  simp [hN]
  exact fun g1 => ret0 hC () rfl fun _ _ _ => trivial
def geoP (g : Geo) : Geo := ⟨2 + 2 * modP g.sectors 3, 256 + 64 * modP g.sector 12, 4 + modP g.blocks 5, 2 + modP g.pages 5, 16 + 4 * modP g.page 6⟩
theorem modP_le (v n : Int) (h : 0 < n) : 0 ≤ modP v n ∧ modP v n < n := ⟨Int.emod_nonneg _ (by omega), Int.emod_lt_of_pos _ h⟩
theorem geoP_right (g : Geo) : (geoP g).right := by
  have h1 := modP_le g.sectors 3 (by decide)
  have h2 := modP_le g.sector 12 (by decide)
  have h3 := modP_le g.blocks 5 (by decide)
  have h4 := modP_le g.pages 5 (by decide)
  have h5 := modP_le g.page 6 (by decide)
  have h0 : (2 + 2 * modP g.sectors 3).tmod 2 = 0 := by rw [Int.tmod_eq_emod_of_nonneg (by omega)]; omega
  simp only [Geo.right, geoP]
  exact ⟨h0, by omega, by omega, by omega, by omega, by omega⟩
set_option maxRecDepth 100000 in
set_option maxHeartbeats 4000000 in
theorem geometry0 (w : World) (I : Nat → Prop) (hI : ∀ b, I b → b < w.heap.size) (g : Geo) :
    Fn0 Try.prog 6 #[.agg (geoC g).toArray] w I (fun _ : Unit => .agg (geoC (geoP g)).toArray) (fun y W => True) := by
  refine enter (svs := [.ag ((geoC g).map .v)]) tysOk Try.func6 rfl Try.ntmps6 Try.results6 (by kernel_rfl) (by simp) hI (fun _ => True) (fun _ _ => trivial) fun C hC hN ok => ?_
  have h1 := modP_le g.sectors 3 (by decide)
  have h2 := modP_le g.sector 12 (by decide)
  have h3 := modP_le g.blocks 5 (by decide)
  have h4 := modP_le g.pages 5 (by decide)
  have h5 := modP_le g.page 6 (by decide)
  simp [hN]
  intro g1 g2
  refine draw ok [(1, .box g1 23 ((geoC g).map .v))] (by rw [ok.P]; exact mixed) (by kernel_rfl) ?_
  simp (maxSteps := 2000000) -implicitDefEqProofs [hN]
  refine call0 ok rfl rfl rfl (fun w I hI hG => mod0 w I hI _ 3 (by decide) (by decide)) fun y W hy => ?_
  subst hy
  simp (maxSteps := 2000000) -implicitDefEqProofs [hN, w64 (x := 2 * modP g.sectors 3) (by omega) (by omega), w64 (x := 2 + 2 * modP g.sectors 3) (by omega) (by omega)]
  refine call0 ok rfl rfl rfl (fun w I hI hG => mod0 w I hI _ 12 (by decide) (by decide)) fun y W hy => ?_
  subst hy
  simp (maxSteps := 2000000) -implicitDefEqProofs [hN, w64 (x := 64 * modP g.sector 12) (by omega) (by omega), w64 (x := 256 + 64 * modP g.sector 12) (by omega) (by omega)]
  refine call0 ok rfl rfl rfl (fun w I hI hG => mod0 w I hI _ 5 (by decide) (by decide)) fun y W hy => ?_
  subst hy
  simp (maxSteps := 2000000) -implicitDefEqProofs [hN, w64 (x := 4 + modP g.blocks 5) (by omega) (by omega)]
  refine call0 ok rfl rfl rfl (fun w I hI hG => mod0 w I hI _ 5 (by decide) (by decide)) fun y W hy => ?_
  subst hy
  simp (maxSteps := 2000000) -implicitDefEqProofs [hN, w64 (x := 2 + modP g.pages 5) (by omega) (by omega)]
  refine call0 ok rfl rfl rfl (fun w I hI hG => mod0 w I hI _ 6 (by decide) (by decide)) fun y W hy => ?_
  subst hy
  simp (maxSteps := 2000000) -implicitDefEqProofs [hN, w64 (x := 4 * modP g.page 6) (by omega) (by omega), w64 (x := 16 + 4 * modP g.page 6) (by omega) (by omega)]
  exact ret0 hC () rfl fun _ _ _ => trivial
end Go.Proofs.Ytbbaoeidobdblaa.Sx

/- In of numbers. -/
set_option linter.unusedVariables false
set_option linter.unusedSimpArgs false
namespace Go.Proofs.Ytbbaoeidobdblaa.Sx
open Go
attribute [local simp ↓] ifb_true' ifb_false'
attribute [local simp] ifb_true ifb_false ifb_eq sx argsT find ev evOp evs evo evBin evInt evStr evNil evNilA ptrA slcA isNoneA asB evLoad look del cellsB evUn evConv kdec fld evFieldA evField evIdxA evIdx evSlc bndL bndH evLen mmi put resV guardV gvL setO tupV cellsOf ones one upd lits nv exitTo SV.val CV.val TI.agg rdyA allR keepB scan simpO gsp isS subs keepT pickT wr memN pubs Res.fact Region.binds bld rest give delL back Res.eqv vi vb num Sv.val undef
theorem int_get {W : World} {a : Option Addr} {n c : Nat} {l : List Int} (h : Sv.ok dInt W (a, n, c) l) {i : Nat} (hi : i < l.length) : ∃ b o, a = some ⟨b, o, none⟩ ∧ W.cell? ⟨b, o + i, none⟩ = some (.int .i64 l[i]) := by
  obtain ⟨b, o, e⟩ := h.2.2.2.is_some (show 0 < l.length by omega)
  cases e
  obtain ⟨cs, hk, _, hc⟩ := h.2.2.2.get hi
  exact ⟨b, o, rfl, by simpa [dInt, flat] using hc 0 (.int .i64 l[i]) (by rw [hk]; rfl)⟩
theorem in0 (w : World) (I : Nat → Prop) (hI : ∀ b, I b → b < w.heap.size) {a : Option Addr} {n c : Nat} (l : List Int) (x : Int) (h : ∀ W, Ext I w W → Sv.ok dInt W (a, n, c) l) :
    Fn0 Try.prog 59 #[.slice a n c, .int .i64 x] w I (fun b : Bool => .bool b) (fun y W => y = decide (x ∈ l)) := by
  obtain rfl : n = l.length := (h w (Ext.refl _ _)).1
  have hx := (h w (Ext.refl _ _)).2.2.1
  refine enter (svs := [.c (.v (.slice a l.length c)), .c (.v (.int .i64 x))]) tysOk Try.func59 rfl Try.ntmps59 Try.results59 (by kernel_rfl) (by simp) hI (fun W => Sv.ok dInt W (a, l.length, c) l) h fun C hC hN ok => ?_
  simp [hN]
  refine loop ok (fun i : Nat => [(5, .c (.v (.int .i64 i)))]) (fun _ => []) (fun i W => i ≤ l.length ∧ x ∉ l.take i) (fun i => l.length - i) 0 ?_ ?_ (fun W hW => ⟨Nat.zero_le _, by simp⟩) ?_
  · simp
  · simp
  rintro i W ⟨hi, hnx⟩ hG next
  rcases Nat.lt_or_ge i l.length with hlt | hge
  · obtain ⟨b, o, e, _⟩ := int_get (show Sv.ok dInt W (a, l.length, c) l from hG) hlt
    cases e
    have e6 : IntKind.i64.wrap ((i : Int) + 1) = (i + 1 : Nat) := by rw [w64 (by omega) (by omega)]; omega
    have ft : l.take (i + 1) = l.take i ++ [l[i]] := by rw [List.take_add_one, List.getElem?_eq_getElem hlt]; rfl
    simp [hN, hlt]
    refine load1 ok rfl rfl rfl rfl (fun v W => v = .int .i64 l[i]) (fun W hW => ?_) ?_
    · obtain ⟨b', o', e, hc⟩ := int_get hW.2 hlt
      cases e
      exact ⟨_, hc, rfl⟩
    rintro v W rfl _
    simp [hN, e6]
    refine ⟨fun he => ret0 hC true rfl fun _ _ _ => ?_, fun he => next (i + 1) _ _ (by omega) (fun W h => ⟨⟨hlt, ?_⟩, h.2⟩) ?_⟩
    · subst he
      simp
    · rw [ft]
      simp only [List.mem_append, List.mem_singleton, not_or]
      exact ⟨hnx, fun e => he e.symm⟩
    · simp
  · simp [hN, Nat.not_lt.2 hge]
    have hT : l.take i = l := List.take_of_length_le hge
    rw [hT] at hnx
    exact ret0 hC false rfl fun _ _ _ => by simp [hnx]
end Go.Proofs.Ytbbaoeidobdblaa.Sx

/- Sx, part 10: s[:h:m], appending to what has no room, and structs held against each other. -/
set_option linter.unusedVariables false
set_option linter.unusedSimpArgs false
namespace Go.Proofs.Ytbbaoeidobdblaa.Sx
open Go
theorem sb3_run {P : Program} {n c : Nat} {kh km : IntKind} {H M : Int} (h0 : 0 ≤ H) (h1 : H ≤ M) (h2 : M ≤ c) (w : World) :
    (Instr.sliceBounds true n c none (some (.int kh H)) (some (.int km M))).run P w = .ok (0, H.toNat, M.toNat) w := by
  unfold Instr.sliceBounds
  have hM : 0 ≤ M := by omega
  have hH : H ≤ (M.toNat : Int) := by omega
  have a1 := fun code w => sb_run (P := P) (k := km) (code := code) hM h2 w
  have a2 := fun code w => sb_run (P := P) (k := kh) (code := code) h0 hH w
  simp [a1, a2]
section
variable {P : Program} {C : Ctx} {T : Ty} {res : List ResultVar} {p : Pos} {tm : Tm} {m : Mem}
/-- s[:h:m]. -/
theorem slc3 (ok : Okc P T C res) {o : Oper} {t d : Nat} {x oh om : Operand} (ho : o.op = .slice t x none (some oh) (some om)) (hd : o.dst = some d) {i ie : TI} (hi : tf t T = some i) (hik : i.kd = 3) (hie : tf i.el T = some ie)
    {a : Option Addr} {n c : Nat} {u : SV} {kh km : IntKind} {H M : Int} (hx : ev tm x = some u) (hu : u.val = .slice a n c) (hh : ev tm oh = some (.c (.v (.int kh H)))) (hm : ev tm om = some (.c (.v (.int km M)))) (h0 : 0 ≤ H) (h1 : H ≤ M) (h2 : M ≤ c)
    (kk : sx T C res 1000 p (put C.n (some d) (.c (.v (.slice a H.toNat M.toNat))) tm) m) : At C (.op o p) tm m := by
  intro act w cs0 hR hJ
  have e1 : act.eval x = .slice a n c := by rw [hR.eval hx, hu]
  have e2 : act.eval oh = .int kh H := hR.eval hh
  have e3 : act.eval om = .int km M := hR.eval hm
  have hu2 := (ok.ty.get hi).g_slice hik
  have hz := (ok.ty.get hie).g_sizeOf (P := C.P)
  have hb := fun w => sb3_run (P := C.P) (n := n) (c := c) (kh := kh) (km := km) h0 h1 h2 w
  have hrun : (execOp act.eval o).run C.P w = .ok (.value (.slice a H.toNat M.toNat)) w := by
    simp [execOp, ho, e1, e2, e3, Instr.sliceAt, run_underlying hu2, Instr.slice, hb, hz]
    intro _
    cases a <;> simp [Addr.add]
  have hRp := hR.put (some d) (.c (.v (.slice a H.toNat M.toNat)))
  exact op_value (ok.sx kk) hrun (by rw [hd]; exact hRp) hJ
/-- What has no room left, and is in memory that nobody changes, is appended to: a new row (k). -/
theorem appC (ok : Okc P T C res) (k k' : Nat) {o : Oper} {s x : Operand} {t d : Nat} (ho : o.op = .call ⟨.builtin .append, #[s, x], #[t, t]⟩) (hd : o.dst = some d) {i ie : TI} (hi : tf t T = some i) (hik : i.kd = 3) (hie : tf i.el T = some ie) (h0 : 0 < ie.sz) (hzl : ie.zero.length = ie.sz)
    {b off n c g m' c' : Nat} {cs' : List CV} {u v : SV} (hnk : look k m.rs = some (.row none 0 0 i.el ie.sz [])) (hs : ev tm s = some u) (hu : u.val = .slice (some ⟨b, off, none⟩) n c) (hk' : look k' m.rs = some (.row (some ⟨g, 0, none⟩) m' c' i.el ie.sz cs')) (hx : ev tm x = some v) (hv : v.val = .slice (some ⟨g, 0, none⟩) m' c')
    (hm : 0 < m') (hfull : c < n + m') (hb : (n + m') * ie.bt ≤ 140737488355328) (hmx : n + m' ≤ 140737488355328) (Q : List Value → World → Prop)
    (h : ∀ W, m.G W → ∃ l, l.length = n * ie.sz ∧ (∀ u ∈ l, u.oneCell' = true) ∧ (∀ j v, l[j]? = some v → W.cell? ⟨b, off + j, none⟩ = some v) ∧ Q l W)
    (kk : ∀ l g' c'' W, Q l W → m.G W → sx T C res 1000 p (put C.n (some d) (.c (.rw k (some ⟨g', 0, none⟩) (n + m') c'')) tm) ⟨m.B, fun W => Q l W ∧ m.G W, (k, .row (some ⟨g', 0, none⟩) (n + m') c'' i.el ie.sz (l.map nv ++ cs')) :: del k (del k m.rs)⟩) : At C (.op o p) tm m := by
  rintro act w cs0 hR ⟨I, F, hJ⟩
  have hw : m.G w := hJ.know w (Ext.refl _ _)
  obtain ⟨l, hl, h1, hc, hq⟩ := h w hw
  have hq' : ∀ W, Ext I w W → Q l W := fun W e => by
    obtain ⟨l2, hl2, _, hc2, hq2⟩ := h W (hJ.know W e)
    have : l2 = l := by
      apply List.ext_getElem?
      intro j
      rcases Nat.lt_or_ge j (n * ie.sz) with hj | hj
      · have e1 : l2[j]? = some (l2[j]'(by omega)) := List.getElem?_eq_getElem _
        have e2 : l[j]? = some (l[j]'(by omega)) := List.getElem?_eq_getElem _
        have hst : I b := stays (w := w) (ad := ⟨b, off + j, none⟩) fun W' e' => by
          obtain ⟨l3, hl3, _, hc3, _⟩ := h W' (hJ.know W' e')
          exact ⟨_, hc3 j _ (List.getElem?_eq_getElem (by omega))⟩
        have e3 := e.cell (a := ⟨b, off + j, none⟩) hst
        rw [hc j _ e2, hc2 j _ e1] at e3
        rw [e1, e2, e3]
      · rw [List.getElem?_eq_none (by omega), List.getElem?_eq_none (by omega)]
    subst this
    exact hq2
  have o2 := hJ.own _ (look_mem hk')
  have o1 := hJ.own _ (look_mem hnk)
  have hcl : cs'.length = m' * ie.sz := by simpa using o2.2.1
  have he := ok.ty.get hie
  have hu2 := (ok.ty.get hi).g_slice hik
  obtain ⟨ii, hii, hsz, hbt, z, hz, hzc⟩ := he.g_some
  have hzs : z.cells.size = ie.sz := by rw [← Array.length_toList, hzc, hzl]
  have hml : n + m' ≤ maxLen := by unfold maxLen; omega
  have hnl : (cs'.map CV.val).length = m' * ie.sz := by simpa using hcl
  have hr := run_append_grow (P := C.P) w t o.type i.el ii z hu2 hii hz ⟨b, off, none⟩ n c l (by rw [hsz]; exact hl) (fun j z hz => by rw [addr_add]; exact hc j z hz) ⟨g, 0, none⟩ m' c' (cs'.map CV.val) (by rw [hsz]; exact hnl) (fun j z hz => by
    rw [addr_add, Nat.zero_add]
    have hj : j < cs'.length := by have := (List.getElem?_eq_some_iff.1 hz).1; simpa using this
    rw [holds_cells o2 (g := g) (cs := cs') rfl j hj]
    simp only [List.getElem?_map] at hz
    simp only [List.getD, List.getElem?_eq_getElem hj, Option.map_some, Option.some.injEq] at hz ⊢
    rw [← hz]
    rfl) hfull (by omega) (growslice_fits (by omega) (by rw [hbt]; exact hb))
  have hge := grownCap_ge w (n + m') c i.el
  have hcm : grownCap w (n + m') c i.el ≤ maxLen := grownCap_le_maxLen w (n + m') c i.el hml
  have hlen : (l ++ cs'.map CV.val).length = (n + m') * ie.sz := by rw [List.length_append, hl, hnl, Nat.add_mul]
  have e1 : act.eval s = .slice (some ⟨b, off, none⟩) n c := by rw [hR.eval hs, hu]
  have e2 : act.eval x = .slice (some ⟨g, 0, none⟩) m' c' := by rw [hR.eval hx, hv]
  have hlv : (l.map nv).map CV.val = l := by simp [Function.comp_def, nv_val]
  have hown : (w.drew.alloc (.cells (l.toArray ++ (cs'.map CV.val).toArray ++ Builtin.zeroCells z.cells (grownCap w (n + m') c i.el - (n + m'))) i.el)).ownsRow 0 i.el ie.sz (.slice (some ⟨w.heap.size, 0, none⟩) (n + m') (grownCap w (n + m') c i.el)) (n + m') (l ++ cs'.map CV.val) := by
    refine ⟨hlen, .inr ⟨w.heap.size, _, _, rfl, Nat.zero_le _, heap_alloc_new w.drew _, hge, hcm, ?_, ?_⟩⟩
    · simp only [Array.size_append, List.size_toArray, size_zeroCells, hzs, hl, hnl, ← Nat.add_mul]
      congr 1
      omega
    · simp only [Array.toList_append, List.append_assoc]
      rw [← List.append_assoc, ← hlen]
      exact List.take_left
  have hrun : (execOp act.eval o).run C.P w = .ok (.value (.slice (some ⟨w.heap.size, 0, none⟩) (n + m') (grownCap w (n + m') c i.el))) (w.drew.alloc (.cells (l.toArray ++ (cs'.map CV.val).toArray ++ Builtin.zeroCells z.cells (grownCap w (n + m') c i.el - (n + m'))) i.el)) := by
    simp [execOp, ho, resolve, invoke, builtin, e1, e2, hr]
  have hext : Ext (fun b => b < w.heap.size ∧ ¬ noS b) w (w.drew.alloc (.cells (l.toArray ++ (cs'.map CV.val).toArray ++ Builtin.zeroCells z.cells (grownCap w (n + m') c i.el - (n + m'))) i.el)) := (Ext.drew _ w).trans (Ext.alloc _ w.drew _ fun b hb => hb.1) fun _ hx => hx
  have hup := hJ.upd k k (.row (some ⟨w.heap.size, 0, none⟩) (n + m') (grownCap w (n + m') c i.el) i.el ie.sz (l.map nv ++ cs')) noS (fun b => b = w.heap.size) (fun b hb => hb.elim) hext ⟨fun b => by simp [Value.ownBlock]; exact ⟨fun h => h.symm, fun h => h.symm⟩, by rw [List.map_append, hlv]; exact hown⟩ (fun b hb => by subst hb; exact ⟨by simp, .inr (Nat.le_refl _)⟩) id
  have hRp := hR.put (some d) (.c (.rw k (some ⟨w.heap.size, 0, none⟩) (n + m') (grownCap w (n + m') c i.el)))
  have hI : Ext I w (w.drew.alloc (.cells (l.toArray ++ (cs'.map CV.val).toArray ++ Builtin.zeroCells z.cells (grownCap w (n + m') c i.el - (n + m'))) i.el)) := hext.mono fun b hb => ⟨hJ.Isz b hb, fun e => e⟩
  exact op_value (ok.sx (kk l w.heap.size _ w hq hw)) hrun (by rw [hd]; exact hRp) ⟨I, _, hup.learn fun W e => hq' W (hI.trans e fun _ hx => hx)⟩
/-- Two values are held against each other, by whatever law. -/
theorem binA (ok : Okc P T C res) {o : Oper} {op : BinOp} {t d ty : Nat} {x y : Operand} (ho : o.op = .binOp op t x y ty) (hd : o.dst = some d) {u v : SV} (hx : ev tm x = some u) (hy : ev tm y = some v) (b : Bool)
    (h : ∀ w, (do eqGuard op t x y u.val v.val; binOp op t u.val v.val : Sem Value).run P w = .ok (.bool b) w)
    (kk : sx T C res 1000 p (put C.n (some d) (.c (.b b)) tm) m) : At C (.op o p) tm m := by
  obtain rfl := ok.P
  intro act w cs0 hR hJ
  have e1 := hR.eval hx
  have e2 := hR.eval hy
  have hrun : (execOp act.eval o).run C.P w = .ok (.value (.bool b)) w := by
    have := h w
    simp only [execOp, ho, e1, e2]
    simp only [Sem.run_bind] at this ⊢
    rw [this]
    rfl
  have hRp := hR.put (some d) (.c (.b b))
  exact op_value (ok.sx kk) hrun (by rw [hd]; exact hRp) hJ
end
end Go.Proofs.Ytbbaoeidobdblaa.Sx

/- Sx, part 11: parts of slices that read; appending whatever reads, be it nothing. -/
set_option linter.unusedVariables false
set_option linter.unusedSimpArgs false
namespace Go.Proofs.Ytbbaoeidobdblaa.Sx
open Go
theorem Rd.take {α : Type} {d : Dt α} {W : World} {a : Option Addr} {xs : List α} (h : Rd d W a xs) (i : Nat) : Rd d W a (xs.take i) := fun hne => by
  obtain ⟨b, o, e, hc⟩ := h (by rintro rfl; simp at hne)
  refine ⟨b, o, e, fun j x hx => hc j x ?_⟩
  rw [List.getElem?_take] at hx
  split at hx
  · exact hx
  · cases hx
theorem Sv.take {α : Type} {d : Dt α} {W : World} {a : Option Addr} {n c : Nat} {xs : List α} (h : Sv.ok d W (a, n, c) xs) {i : Nat} (hi : i ≤ xs.length) : Sv.ok d W (a, i, c) (xs.take i) := by
  obtain ⟨h1, h2, h3, h4⟩ := h
  simp only at h1 h2 h3 h4
  refine ⟨by simp; omega, by simp; omega, by simp; omega, h4.take i⟩
theorem Sv.full {α : Type} {d : Dt α} {W : World} {a : Option Addr} {n c : Nat} {xs : List α} (h : Sv.ok d W (a, n, c) xs) {i : Nat} (hi : i ≤ xs.length) : Sv.ok d W (a, i, i) (xs.take i) := by
  obtain ⟨h1, h2, h3, h4⟩ := h
  simp only at h1 h2 h3 h4
  refine ⟨by simp; omega, by simp; omega, by simp; omega, h4.take i⟩
theorem Sv.drop {α : Type} {d : Dt α} {W : World} {a : Option Addr} {n c : Nat} {xs : List α} (h : Sv.ok d W (a, n, c) xs) {i : Nat} (hi : i ≤ xs.length) : Sv.ok d W (if c = i then a else addrP a (i * d.sz), n - i, c - i) (xs.drop i) := by
  obtain ⟨h1, h2, h3, h4⟩ := h
  simp only at h1 h2 h3 h4
  refine ⟨by simp; omega, by simp; omega, by simp; omega, fun hne => ?_⟩
  have hlt : i < xs.length := by
    rcases Nat.lt_or_ge i xs.length with h | h
    · exact h
    · exact absurd (List.drop_eq_nil_of_le h) hne
  obtain ⟨b, o, rfl, hc⟩ := h4 (by rintro rfl; simp at hlt)
  simp only
  rw [if_neg (by omega), addrP_some]
  refine ⟨b, o + i * d.sz, rfl, fun j x hx => ?_⟩
  rw [List.getElem?_drop] at hx
  obtain ⟨cs, k1, k2⟩ := hc (i + j) x hx
  refine ⟨cs, k1, fun u v hv => ?_⟩
  rw [Nat.add_assoc o, ← Nat.add_mul]
  exact k2 u v hv
theorem Sv.len {α : Type} {d : Dt α} {W : World} {a : Option Addr} {n c : Nat} {xs : List α} (h : Sv.ok d W (a, n, c) xs) : n = xs.length := h.1
theorem Sv.cap {α : Type} {d : Dt α} {W : World} {a : Option Addr} {n c : Nat} {xs : List α} (h : Sv.ok d W (a, n, c) xs) : xs.length ≤ c := h.2.1
theorem Sv.nil {α : Type} {d : Dt α} {W : World} (a : Option Addr) (c : Nat) : Sv.ok d W (a, 0, c) [] := ⟨rfl, Nat.zero_le _, Nat.zero_le _, rd_nil _ _ _⟩
/-- A row of one's own, given up, reads. -/
theorem Rows.sv {α : Type} {d : Dt α} {W : World} {a : Option Addr} {n c base : Nat} {e : TypeId} {xs : List α} {cs : List Value} (h : Rows d W xs cs) (h0 : 0 < d.sz) (hl : xs.length ≤ 100000000000) (ho : W.ownsRow base e d.sz (.slice a n c) n cs) : Sv.ok d W (a, n, c) xs := by
  obtain ⟨h1, h2, h3⟩ := h.rd ho h0
  subst h1
  exact ⟨rfl, h2, hl, h3⟩
theorem Rows.append {α : Type} {d : Dt α} {W : World} {xs ys : List α} {l k : List Value} (h1 : Rows d W xs l) (h2 : Rows d W ys k) : Rows d W (xs ++ ys) (l ++ k) := by
  induction xs generalizing l with
  | nil =>
    have : l = [] := List.eq_nil_of_length_eq_zero (by simpa using h1.1)
    subst this
    exact h2
  | cons x xs ih =>
    obtain ⟨c, r, rfl, h3, h4⟩ := Rows.cons_iff.1 h1
    rw [List.cons_append, List.append_assoc]
    exact Rows.cons_iff.2 ⟨c, r ++ k, rfl, h3, ih h4⟩
theorem Rows.sole {α : Type} {d : Dt α} {W : World} {x : α} {c : List Value} (h : d.K W x c) : Rows d W [x] c := Rows.cons_iff.2 ⟨c, [], by simp, h, rows_nil _ _⟩
/-- Cells are written, one by one (values). -/
def updV (l : List Value) (o : Nat) : List Value → List Value
  | [] => l
  | x :: r => updV (l.set o x) (o + 1) r
theorem updV_len (o : Nat) (c : List Value) : ∀ l : List Value, (updV l o c).length = l.length := by
  induction c generalizing o with
  | nil => exact fun _ => rfl
  | cons x r ih => intro l; rw [updV, ih]; simp
theorem updV_get (c : List Value) : ∀ (o : Nat) (l : List Value) (j : Nat), o + c.length ≤ l.length → (updV l o c)[j]? = if o ≤ j ∧ j < o + c.length then c[j - o]? else l[j]? := by
  induction c with
  | nil => intro o l j h; rw [if_neg (by simp only [List.length_nil]; omega)]; rfl
  | cons x r ih =>
    intro o l j h
    simp at h
    rw [updV, ih _ _ _ (by simp; omega)]
    by_cases h1 : j = o
    · subst h1
      rw [if_neg (by omega), if_pos (by simp), List.getElem?_set, if_pos rfl, if_pos (by omega)]
      simp
    · by_cases h2 : o + 1 ≤ j ∧ j < o + 1 + r.length
      · rw [if_pos h2, if_pos (by simp; omega), show j - o = (j - (o + 1)) + 1 by omega, List.getElem?_cons_succ]
      · rw [if_neg h2, if_neg (by simp; omega), List.getElem?_set, if_neg (by omega)]
theorem Rows.set {α : Type} {d : Dt α} {W : World} {xs : List α} {l c : List Value} {x : α} (h : Rows d W xs l) (hx : d.K W x c) {i : Nat} (hi : i < xs.length) : Rows d W (xs.set i x) (updV l (i * d.sz) c) := by
  have hc := d.len hx
  have hle : i * d.sz + d.sz ≤ l.length := by
    rw [h.1, ← Nat.succ_mul]
    exact Nat.mul_le_mul_right _ hi
  refine ⟨by rw [updV_len, h.1, List.length_set], fun j y hy => ?_⟩
  rw [List.getElem?_set] at hy
  by_cases hij : i = j
  · subst hij
    rw [if_pos rfl, if_pos hi] at hy
    cases hy
    have : ((updV l (i * d.sz) c).drop (i * d.sz)).take d.sz = c := by
      apply List.ext_getElem?
      intro u
      rw [List.getElem?_take]
      split
      · rename_i hu
        rw [List.getElem?_drop, updV_get _ _ _ _ (by omega), if_pos (by omega)]
        congr 1
        omega
      · rename_i hu
        rw [List.getElem?_eq_none (by omega)]
    rw [this]
    exact hx
  · rw [if_neg hij] at hy
    have hj := (List.getElem?_eq_some_iff.1 hy).1
    have : ((updV l (i * d.sz) c).drop (j * d.sz)).take d.sz = (l.drop (j * d.sz)).take d.sz := by
      apply List.ext_getElem?
      intro u
      rw [List.getElem?_take, List.getElem?_take]
      split
      · rename_i hu
        rw [List.getElem?_drop, List.getElem?_drop, updV_get _ _ _ _ (by omega), if_neg]
        rintro ⟨h1, h2⟩
        rcases Nat.lt_or_gt_of_ne hij with h3 | h3
        · have : (i + 1) * d.sz ≤ j * d.sz := Nat.mul_le_mul_right _ h3
          rw [Nat.succ_mul] at this
          omega
        · have : (j + 1) * d.sz ≤ i * d.sz := Nat.mul_le_mul_right _ h3
          rw [Nat.succ_mul] at this
          omega
      · rfl
    rw [this]
    exact h.2 j y hy
theorem Rows.at {α : Type} {d : Dt α} {W : World} {xs : List α} {l : List Value} (h : Rows d W xs l) {i : Nat} (hi : i < xs.length) : ∃ c, d.K W xs[i] c ∧ c.length = d.sz ∧ ∀ j v, c[j]? = some v → l[i * d.sz + j]? = some v := by
  have h1 := h.2 i xs[i] (List.getElem?_eq_getElem hi)
  refine ⟨_, h1, d.len h1, fun j v hv => ?_⟩
  rw [List.getElem?_take] at hv
  split at hv
  · rwa [List.getElem?_drop] at hv
  · cases hv
theorem Rows.take {α : Type} {d : Dt α} {W : World} {xs : List α} {l : List Value} (h : Rows d W xs l) {i : Nat} (hi : i ≤ xs.length) : Rows d W (xs.take i) (l.take (i * d.sz)) := by
  have hle : i * d.sz ≤ xs.length * d.sz := Nat.mul_le_mul_right _ hi
  refine ⟨by rw [List.length_take, List.length_take, h.1, Nat.min_eq_left hle, Nat.min_eq_left hi], fun j y hy => ?_⟩
  rw [List.getElem?_take] at hy
  split at hy
  · rename_i hj
    have h1 := h.2 j y hy
    have : (j + 1) * d.sz ≤ i * d.sz := Nat.mul_le_mul_right _ hj
    rw [Nat.succ_mul] at this
    rw [List.drop_take, List.take_take, Nat.min_eq_left (by omega)]
    exact h1
  · cases hy
section
variable {P : Program} {C : Ctx} {T : Ty} {res : List ResultVar} {p : Pos} {tm : Tm} {m : Mem}
/-- Where a row of one's own stands. -/
theorem rowSome (k : Nat) {a : Option Addr} {n c : Nat} {e : TypeId} {sz : Nat} {cs : List CV} (hl : look k m.rs = some (.row a n c e sz cs)) (h0 : 0 < n) (h : ∀ g, a = some ⟨g, 0, none⟩ → At C p tm m) : At C p tm m := by
  rintro act w cs0 hR ⟨I, F, hJ⟩
  have h1 := (hJ.own _ (look_mem hl)).2
  rcases h1.2 with ⟨h2, h3⟩ | ⟨g, cap, cur, h2, _⟩
  · have : n = 0 := by simpa using congrArg (fun v => match v with | Value.slice _ n _ => n | _ => 0) h2
    omega
  · have : a = some ⟨g, 0, none⟩ := by simpa using congrArg (fun v => match v with | Value.slice a _ _ => a | _ => none) h2
    exact h g this act w cs0 hR ⟨I, F, hJ⟩
theorem rowAddr (k : Nat) {a : Option Addr} {n c : Nat} {e : TypeId} {sz : Nat} {cs : List CV} (hl : look k m.rs = some (.row a n c e sz cs)) (h : (a = none ∧ n = 0 ∧ c = 0 ∨ ∃ b off, a = some ⟨b, off, none⟩) → At C p tm m) : At C p tm m := by
  rintro act w cs0 hR ⟨I, F, hJ⟩
  have h1 := (hJ.own _ (look_mem hl)).2
  refine h ?_ act w cs0 hR ⟨I, F, hJ⟩
  rcases h1.2 with ⟨h2, h3⟩ | ⟨g, cap, cur, h2, _⟩
  · exact .inl (by simpa using h2)
  · exact .inr ⟨g, 0, by simpa using congrArg (fun v => match v with | Value.slice a _ _ => a | _ => none) h2⟩
theorem owns_le {w : World} {e : TypeId} {sz : Nat} {a : Option Addr} {n c : Nat} {cs : List Value} (h : w.ownsRow 0 e sz (.slice a n c) n cs) : n ≤ c := by
  rcases h.2 with ⟨h1, h2⟩ | ⟨g, cap, cur, h1, _, _, h2, _⟩
  · cases h1; exact Nat.le_refl _
  · have : c = cap := by simpa using congrArg (fun v => match v with | Value.slice _ _ c => c | _ => 0) h1
    omega
/-- What reads is appended. -/
theorem appV (ok : Okc P T C res) (k : Nat) {o : Oper} {s x : Operand} {t d : Nat} (ho : o.op = .call ⟨.builtin .append, #[s, x], #[t, t]⟩) (hd : o.dst = some d) {i ie : TI} (hi : tf t T = some i) (hik : i.kd = 3) (hie : tf i.el T = some ie) (h0 : 0 < ie.sz) (hzl : ie.zero.length = ie.sz)
    {a sa : Option Addr} {n c m' c' : Nat} {cs : List CV} {u v : SV} (hk : look k m.rs = some (.row a n c i.el ie.sz cs)) (hs : ev tm s = some u) (hu : u.val = .slice a n c) (hx : ev tm x = some v) (hv : v.val = .slice sa m' c')
    {α : Type} (D : Dt α) (xs : List α) (hD : D.sz = ie.sz) (hb : (n + xs.length) * ie.bt ≤ 140737488355328) (hmx : n + xs.length ≤ 140737488355328)
    (h : ∀ W, m.G W → Sv.ok D W (sa, m', c') xs)
    (kk : ∀ l a' c'' W, l.length = xs.length * ie.sz → Rows D W xs l → m.G W → sx T C res 1000 p (put C.n (some d) (.c (.rw k a' (n + xs.length) c'')) tm) ⟨m.B, fun W => Rows D W xs l ∧ m.G W, (k, .row a' (n + xs.length) c'' i.el ie.sz (cs ++ l.map nv)) :: del k (del k m.rs)⟩) : At C (.op o p) tm m := by
  intro act w cs0 hR hJ
  have hw : m.G w := by
    obtain ⟨I, F, hi⟩ := hJ
    exact hi.know w (Ext.refl _ _)
  have hm' : m' = xs.length := Sv.len (h w hw)
  subst hm'
  rcases Nat.eq_zero_or_pos xs.length with hz | hz
  · have hxs : xs = [] := List.eq_nil_of_length_eq_zero hz
    subst hxs
    have o1 : n ≤ c := by
      obtain ⟨I, F, hi⟩ := hJ
      exact owns_le (hi.own _ (look_mem hk)).2
    have e1 : act.eval s = .slice a n c := by rw [hR.eval hs, hu]
    have e2 : act.eval x = .slice sa 0 c' := by rw [hR.eval hx, hv]; rfl
    have hu2 := (ok.ty.get hi).g_slice hik
    have hzz := (ok.ty.get hie).g_sizeOf (P := C.P)
    have hrun : (execOp act.eval o).run C.P w = .ok (.value (.slice a n c)) w := by
      cases sa <;> cases a <;> simp [execOp, ho, resolve, invoke, builtin, e1, e2, Builtin.append_, run_underlying hu2, hzz, Builtin.lenOf, o1, Builtin.firstCells, loadCells, loadCellsFrom, storeCells]
    have hRp := hR.put (some d) (.c (.rw k a (n + 0) c))
    have hJ2 : J C ⟨m.B, fun W => Rows D W [] [] ∧ m.G W, (k, .row a (n + 0) c i.el ie.sz (cs ++ ([] : List Value).map nv)) :: del k (del k m.rs)⟩ w := by
      obtain ⟨I, F, hi⟩ := hJ
      have o1 := hi.own _ (look_mem hk)
      have hup := hi.upd k k (.row a (n + 0) c i.el ie.sz (cs ++ ([] : List Value).map nv)) (fun b => (Value.slice a n c).ownBlock = some b) (fun b => (Value.slice a n c).ownBlock = some b) (fun b hb => ⟨(o1.1 b).2 hb, _, look_mem hk⟩) (Ext.refl _ w) ⟨fun b => Iff.rfl, by simpa using o1.2⟩ (fun b hb => ⟨(hi.Fsz _ b (look_mem hk) ((o1.1 b).2 hb)).1, .inl hb⟩) id
      exact ⟨I, _, hup.learn fun W _ => rows_nil _ _⟩
    exact op_value (ok.sx (kk [] a c w (by simp) (rows_nil _ _) hw)) hrun (by rw [hd]; exact hRp) hJ2
  · obtain ⟨b, off, rfl⟩ := (h w hw).2.2.2.is_some hz
    refine appI ok k ho hd hi hik hie h0 hzl hk hs hu hx hv hz hb hmx (fun l W => Rows D W xs l) (fun W hW => ?_) (fun l g' c'' W hq hG => ?_) act w cs0 hR hJ
    · obtain ⟨l, h1, h2, h3⟩ := (h W hW).2.2.2.all_rows
      have h4 := h1.1
      rw [hD] at h4
      exact ⟨l, h4, h2, h3, h1⟩
    · exact kk l (some ⟨g', 0, none⟩) c'' W (by rw [← hD]; exact hq.1) hq hG
/-- What reads, and has no room left, is appended to: a new row. -/
theorem appF (ok : Okc P T C res) (k k' : Nat) {o : Oper} {s x : Operand} {t d : Nat} (ho : o.op = .call ⟨.builtin .append, #[s, x], #[t, t]⟩) (hd : o.dst = some d) {i ie : TI} (hi : tf t T = some i) (hik : i.kd = 3) (hie : tf i.el T = some ie) (h0 : 0 < ie.sz) (hzl : ie.zero.length = ie.sz)
    {a : Option Addr} {n g m' c' : Nat} {cs' : List CV} {u v : SV} (hnk : look k m.rs = some (.row none 0 0 i.el ie.sz [])) (hs : ev tm s = some u) (hu : u.val = .slice a n n) (hk' : look k' m.rs = some (.row (some ⟨g, 0, none⟩) m' c' i.el ie.sz cs')) (hx : ev tm x = some v) (hv : v.val = .slice (some ⟨g, 0, none⟩) m' c')
    (hm : 0 < m') (h1 : ones cs') {α : Type} (D : Dt α) (xs : List α) (hD : D.sz = ie.sz) (hb : (n + m') * ie.bt ≤ 140737488355328) (hmx : n + m' ≤ 140737488355328)
    (h : ∀ W, m.G W → Sv.ok D W (a, n, n) xs) (hA : a = none ∨ ∃ b off, a = some ⟨b, off, none⟩)
    (kk : ∀ l g' c'' W, l.length = xs.length * ie.sz → Rows D W xs l → m.G W → sx T C res 1000 p (put C.n (some d) (.c (.rw k (some ⟨g', 0, none⟩) (xs.length + m') c'')) tm) ⟨m.B, fun W => Rows D W xs l ∧ m.G W, (k, .row (some ⟨g', 0, none⟩) (xs.length + m') c'' i.el ie.sz (l.map nv ++ cs')) :: del k (del k m.rs)⟩) : At C (.op o p) tm m := by
  intro act w cs0 hR hJ
  have hw : m.G w := by
    obtain ⟨I, F, hi⟩ := hJ
    exact hi.know w (Ext.refl _ _)
  have hm' : n = xs.length := Sv.len (h w hw)
  subst hm'
  rcases hA with rfl | ⟨b, off, rfl⟩
  rotate_left 1
  · refine appC ok k k' ho hd hi hik hie h0 hzl hnk hs hu hk' hx hv hm (by omega) hb hmx (fun l W => Rows D W xs l) (fun W hW => ?_) (fun l g' c'' W hq hG => ?_) act w cs0 hR hJ
    · obtain ⟨l, h1, h2, h3⟩ := Rd.all_rows (d := D) (xs := xs) (h W hW).2.2.2
      have h4 := h1.1
      rw [hD] at h4
      exact ⟨l, h4, h2, h3, h1⟩
    · exact kk l g' c'' W (by rw [← hD]; exact hq.1) hq hG
  · rcases Nat.eq_zero_or_pos xs.length with hz | hz
    · have hxs : xs = [] := List.eq_nil_of_length_eq_zero hz
      subst hxs
      have hJ2 : J C ⟨m.B, fun W => Rows D W [] [] ∧ m.G W, m.rs⟩ w := by
        obtain ⟨I, F, hi⟩ := hJ
        exact ⟨I, F, hi.learn fun W _ => rows_nil _ _⟩
      refine appR (m := ⟨m.B, fun W => Rows D W [] [] ∧ m.G W, m.rs⟩) ok k k' ho hd hi hik hie h0 hzl hnk hs hu hk' hx hv hm h1 hb hmx (fun g' c'' => ?_) act w cs0 hR hJ2
      have := kk [] g' c'' w (by simp) (rows_nil _ _) hw
      simpa using this
    · obtain ⟨b, off, e⟩ := (h w hw).2.2.2.is_some hz
      cases e
/-- A slot's value, told in other words. -/
theorem tag (ok : Okc P T C res) (t : Nat) {x : SV} (y : SV) (hx : find t tm = some x) (hv : x.val = y.val) (h : sx T C res 1000 p ((t, y) :: tm) m) : At C p tm m :=
  fun a w cs hR hJ => ok.sx h a w cs (hR.same hx hv) hJ
end
end Go.Proofs.Ytbbaoeidobdblaa.Sx
